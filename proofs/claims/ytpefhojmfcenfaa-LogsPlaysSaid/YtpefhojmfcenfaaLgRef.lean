/- The reference's functions that only look. -/
/- The reference's functions that make another log: Add, Reset, Cut. -/
/- The reference's Put. -/
import Derived.Test.YtpefhojmfcenfaaLgOps7
import Derived.Test.YtpefhojmfcenfaaLgPure
set_option maxRecDepth 100000
set_option linter.unusedVariables false
set_option linter.unusedSimpArgs false
namespace Go.Proofs.Ytpefhojmfcenfaa.logs
open Go.Ahs

/-- The document's log: a value. -/
abbrev ref (L : Lg) (w : AVal) : AVal := .agg [.int .u64 (L.idx : Int), .int .u64 (L.term : Int), .int .u8 (L.mem : Int), w]
abbrev refC (L : Lg) (w : AVal) : List AVal := [.int .u64 (L.idx : Int), .int .u64 (L.term : Int), .int .u8 (L.mem : Int), w]

theorem sl_one {H : Heap} {sz : Nat} {v : AVal} {xs : List (List AVal)} (h : Sl H sz v xs) : v.one = true ∧ v.cells = [v] := by
  rcases h.at' with ⟨a, c, rfl, _⟩ | ⟨b, o, c, cs, rfl, _⟩ <;> exact ⟨rfl, rfl⟩

section
variable {H : Heap} {w : AVal} {L : Lg}

theorem ref_ones (h : Es H w L.es) : ((refC L w).all fun x => x.one) = true := by
  show (true && (true && (true && (w.one && true)))) = true
  rw [(sl_one h).1]; rfl

theorem ref65 {n lim : Nat} (h : Es H w L.es) (hs : L.es.length < 9223372036854775807) : ∃ r H', Ahs.runT ap (n + 1) lim (.fn 65) [ref L w] H = some (r, H') ∧ r = .tup [.int .u64 ((lastP L).1 : Int), .int .u64 ((lastP L).2 : Int)] ∧ Keeps2 H H' := by
  refine F65_run (n := n) a65 ?_
  unfold F65
  have ho := ref_ones h
  have k : Keeps2 H (H.push (.cells (refC L w))) := .push _ _
  have he := h.keep k
  by_cases h0 : L.es.length = 0
  · have hd : ((L.es.length : Int) == 0) = true := by rw [h0]; rfl
    have hL : lastP L = (L.idx, L.term) := by unfold lastP; rw [List.length_eq_zero_iff.1 h0]; rfl
    (repeat (first | (with_reducible apply bindP_intro; (focus (first | with_reducible rfl | (simp only [walkR, get0, getS, Nat.zero_add, Nat.add_zero, Bool.not_true, Bool.not_false, decide_true, decide_false, reduceIte, and_self, Bool.false_eq_true, ho, aload_new1, he.len, hd] <;> with_reducible rfl)))) | (with_reducible apply bind2_intro; (focus (first | with_reducible rfl | (simp only [walkR, get0, getS, Nat.zero_add, Nat.add_zero, Bool.not_true, Bool.not_false, decide_true, decide_false, reduceIte, and_self, Bool.false_eq_true, ho, aload_new1, he.len, hd] <;> with_reducible rfl)))) | with_reducible apply cond_t | with_reducible apply cond_f))
    rw [hL]
    exact ⟨rfl, k⟩
  · have hd : ((L.es.length : Int) == 0) = false := by rw [Bool.eq_false_iff]; simp; exact fun e => h0 (by rw [e]; rfl)
    have hi : L.es.length - 1 < L.es.length := by omega
    have hw : IntKind.i64.wrap ((L.es.length : Int) - 1) = ((L.es.length - 1 : Nat) : Int) := by rw [wrap_i64 (by omega) (by omega)]; omega
    have hL : lastP L = (L.es[L.es.length - 1].idx, L.es[L.es.length - 1].term) := by
      unfold lastP
      rw [List.getLast?_eq_getElem?, List.getElem?_eq_getElem hi]
    (repeat (first | (with_reducible apply bindP_intro; (focus (first | with_reducible rfl | (simp only [walkR, get0, getS, Nat.zero_add, Nat.add_zero, Bool.not_true, Bool.not_false, decide_true, decide_false, reduceIte, and_self, Bool.false_eq_true, ho, aload_new1, he.len, hd, hw, he.addr hi, he.faddr hi, he.idx hi, he.idx' hi, he.term hi] <;> with_reducible rfl)))) | (with_reducible apply bind2_intro; (focus (first | with_reducible rfl | (simp only [walkR, get0, getS, Nat.zero_add, Nat.add_zero, Bool.not_true, Bool.not_false, decide_true, decide_false, reduceIte, and_self, Bool.false_eq_true, ho, aload_new1, he.len, hd, hw, he.addr hi, he.faddr hi, he.idx hi, he.idx' hi, he.term hi] <;> with_reducible rfl)))) | with_reducible apply cond_t | with_reducible apply cond_f))
    rw [hL]
    exact ⟨rfl, k⟩

theorem ref67_loop {R : Caller} {lim n : Nat} {K : AVal → Heap → Prop} {b : Nat} {i : Nat} (hc : H.cells b = some (refC L w)) (h : Es H w L.es) (hf : L.Fits) (hs : L.es.length < 9223372036854775807) (hne : i ≠ L.idx) (hK : K (optT (termP L i)) H) :
    ∀ (m k : Nat), L.es.length < m + k → k ≤ L.es.length → ¬ (L.idx < i ∧ i ≤ L.idx + k) → F67_l0 R lim n K m (.int .u64 (i : Int)) (.ptr (some (b, 0))) (.int .i64 (k : Int)) H
  | 0, k, hm, hk, _ => by exfalso; omega
  | m + 1, k, hm, hk, hn => by
    show F67_s0 R lim n K (F67_l0 R lim n K m) _ _ _ H
    unfold F67_s0 F67_j0
    by_cases h1 : k < L.es.length
    · have hd : decide ((k : Int) < (L.es.length : Int)) = true := dT (by omega)
      have hw : IntKind.i64.wrap ((k : Int) + 1) = ((k + 1 : Nat) : Int) := i64_succ (by omega)
      have hidx := hf.at' h1
      by_cases h2 : L.es[k].idx = i
      · have hq : (((L.es[k].idx : Nat) : Int) == (i : Int)) = true := by rw [h2]; simp
        (repeat (first | (with_reducible apply bindP_intro; (focus (first | with_reducible rfl | (simp only [walkR, get0, getS, Nat.zero_add, Nat.add_zero, Bool.not_true, Bool.not_false, decide_true, decide_false, reduceIte, and_self, Bool.false_eq_true, aload_one hc, h.len, hd, h.addr h1, h.faddr h1, h.idx h1, h.idx' h1, hq, h.term h1] <;> with_reducible rfl)))) | (with_reducible apply bind2_intro; (focus (first | with_reducible rfl | (simp only [walkR, get0, getS, Nat.zero_add, Nat.add_zero, Bool.not_true, Bool.not_false, decide_true, decide_false, reduceIte, and_self, Bool.false_eq_true, aload_one hc, h.len, hd, h.addr h1, h.faddr h1, h.idx h1, h.idx' h1, hq, h.term h1] <;> with_reducible rfl)))) | with_reducible apply cond_t | with_reducible apply cond_f))
        have ht : termP L i = some L.es[k].term := by
          unfold termP
          have e : i - L.idx - 1 = k := by omega
          rw [if_pos (by omega), e, List.getElem?_eq_getElem h1]; rfl
        rw [ht] at hK
        exact hK
      · have hq : (((L.es[k].idx : Nat) : Int) == (i : Int)) = false := by rw [Bool.eq_false_iff]; simp; omega
        (repeat (first | (with_reducible apply bindP_intro; (focus (first | with_reducible rfl | (simp only [walkR, get0, getS, Nat.zero_add, Nat.add_zero, Bool.not_true, Bool.not_false, decide_true, decide_false, reduceIte, and_self, Bool.false_eq_true, aload_one hc, h.len, hd, h.addr h1, h.faddr h1, h.idx h1, h.idx' h1, hq, hw] <;> with_reducible rfl)))) | (with_reducible apply bind2_intro; (focus (first | with_reducible rfl | (simp only [walkR, get0, getS, Nat.zero_add, Nat.add_zero, Bool.not_true, Bool.not_false, decide_true, decide_false, reduceIte, and_self, Bool.false_eq_true, aload_one hc, h.len, hd, h.addr h1, h.faddr h1, h.idx h1, h.idx' h1, hq, hw] <;> with_reducible rfl)))) | with_reducible apply cond_t | with_reducible apply cond_f))
        exact ref67_loop hc h hf hs hne hK m (k + 1) (by omega) (by omega) (by omega)
    · have hd : decide ((k : Int) < (L.es.length : Int)) = false := dF (by omega)
      (repeat (first | (with_reducible apply bindP_intro; (focus (first | with_reducible rfl | (simp only [walkR, get0, getS, Nat.zero_add, Nat.add_zero, Bool.not_true, Bool.not_false, decide_true, decide_false, reduceIte, and_self, Bool.false_eq_true, aload_one hc, h.len, hd] <;> with_reducible rfl)))) | (with_reducible apply bind2_intro; (focus (first | with_reducible rfl | (simp only [walkR, get0, getS, Nat.zero_add, Nat.add_zero, Bool.not_true, Bool.not_false, decide_true, decide_false, reduceIte, and_self, Bool.false_eq_true, aload_one hc, h.len, hd] <;> with_reducible rfl)))) | with_reducible apply cond_t | with_reducible apply cond_f))
      have ht : termP L i = none := by
        unfold termP
        rw [if_neg (by omega), if_neg hne]
      rw [ht] at hK
      exact hK

theorem ref67 {n lim : Nat} (h : Es H w L.es) (hf : L.Fits) (hs : L.es.length < 9223372036854775807) (hn : L.es.length < n) {i : Nat} : ∃ r H', Ahs.runT ap (n + 1) lim (.fn 67) [ref L w, .int .u64 (i : Int)] H = some (r, H') ∧ r = optT (termP L i) ∧ Keeps2 H H' := by
  refine F67_run (n := n) a67 ?_
  unfold F67
  have ho := ref_ones h
  have k : Keeps2 H (H.push (.cells (refC L w))) := .push _ _
  by_cases h1 : i = L.idx
  · have hq : ((i : Int) == (L.idx : Int)) = true := by rw [h1]; simp
    (repeat (first | (with_reducible apply bindP_intro; (focus (first | with_reducible rfl | (simp only [walkR, get0, getS, Nat.zero_add, Nat.add_zero, Bool.not_true, Bool.not_false, decide_true, decide_false, reduceIte, and_self, Bool.false_eq_true, ho, aload_new1, hq] <;> with_reducible rfl)))) | (with_reducible apply bind2_intro; (focus (first | with_reducible rfl | (simp only [walkR, get0, getS, Nat.zero_add, Nat.add_zero, Bool.not_true, Bool.not_false, decide_true, decide_false, reduceIte, and_self, Bool.false_eq_true, ho, aload_new1, hq] <;> with_reducible rfl)))) | with_reducible apply cond_t | with_reducible apply cond_f))
    have ht : termP L i = some L.term := by
      unfold termP
      rw [if_neg (by omega), if_pos h1]
    rw [ht]
    exact ⟨rfl, k⟩
  · have hq : ((i : Int) == (L.idx : Int)) = false := by rw [Bool.eq_false_iff]; simp; omega
    (repeat (first | (with_reducible apply bindP_intro; (focus (first | with_reducible rfl | (simp only [walkR, get0, getS, Nat.zero_add, Nat.add_zero, Bool.not_true, Bool.not_false, decide_true, decide_false, reduceIte, and_self, Bool.false_eq_true, ho, aload_new1, hq] <;> with_reducible rfl)))) | (with_reducible apply bind2_intro; (focus (first | with_reducible rfl | (simp only [walkR, get0, getS, Nat.zero_add, Nat.add_zero, Bool.not_true, Bool.not_false, decide_true, decide_false, reduceIte, and_self, Bool.false_eq_true, ho, aload_new1, hq] <;> with_reducible rfl)))) | with_reducible apply cond_t | with_reducible apply cond_f))
    exact ref67_loop (cells_push_new H _) (h.keep k) hf hs h1 ⟨rfl, k⟩ n 0 (by omega) (by omega) (by omega)

theorem ref68 {n lim : Nat} (h : Es H w L.es) (hs : L.es.length < 9223372036854775807) {i t : Nat} : ∃ r H', Ahs.runT ap (n + 2) lim (.fn 68) [ref L w, .int .u64 (i : Int), .int .u64 (t : Int)] H = some (r, H') ∧ r = .bool (asNewP L i t) ∧ Keeps2 H H' := by
  refine F68_run (n := n + 1) a68 ?_
  unfold F68
  have ho := ref_ones h
  have k : Keeps2 H (H.push (.cells (refC L w))) := .push _ _
  have hld : aload (H.push (.cells (refC L w))) (some 4) (.ptr (some (H.next, 0))) = some (ref L w) := aload_newA H rfl
  (repeat (first | (with_reducible apply bindP_intro; (focus (first | with_reducible rfl | (simp only [walkR, get0, getS, Nat.zero_add, Nat.add_zero, Bool.not_true, Bool.not_false, decide_true, decide_false, reduceIte, and_self, Bool.false_eq_true, ho, hld] <;> with_reducible rfl)))) | (with_reducible apply bind2_intro; (focus (first | with_reducible rfl | (simp only [walkR, get0, getS, Nat.zero_add, Nat.add_zero, Bool.not_true, Bool.not_false, decide_true, decide_false, reduceIte, and_self, Bool.false_eq_true, ho, hld] <;> with_reducible rfl)))) | with_reducible apply cond_t | with_reducible apply cond_f))
  refine bind2_of (ref65 (n := n) (L := L) (h.keep k) hs) ?_
  rintro _ H1 ⟨rfl, k1⟩
  unfold asNewP
  generalize lastP L = p
  by_cases h2 : t = p.2
  · have hq : ((t : Int) == (p.2 : Int)) = true := by rw [h2]; simp
    rw [dF (show ¬ p.2 < t by omega), Bool.false_or, dT h2, Bool.true_and]
    by_cases h3 : p.1 ≤ i
    · have hd : decide ((p.1 : Int) ≤ (i : Int)) = true := dT (by omega)
      (repeat (first | (with_reducible apply bindP_intro; (focus (first | with_reducible rfl | (simp only [walkR, get0, getS, Nat.zero_add, Nat.add_zero, Bool.not_true, Bool.not_false, decide_true, decide_false, reduceIte, and_self, Bool.false_eq_true, hq, hd] <;> with_reducible rfl)))) | (with_reducible apply bind2_intro; (focus (first | with_reducible rfl | (simp only [walkR, get0, getS, Nat.zero_add, Nat.add_zero, Bool.not_true, Bool.not_false, decide_true, decide_false, reduceIte, and_self, Bool.false_eq_true, hq, hd] <;> with_reducible rfl)))) | with_reducible apply cond_t | with_reducible apply cond_f))
      rw [dT h3]
      exact ⟨rfl, k.trans k1⟩
    · have hd : decide ((p.1 : Int) ≤ (i : Int)) = false := dF (by omega)
      (repeat (first | (with_reducible apply bindP_intro; (focus (first | with_reducible rfl | (simp only [walkR, get0, getS, Nat.zero_add, Nat.add_zero, Bool.not_true, Bool.not_false, decide_true, decide_false, reduceIte, and_self, Bool.false_eq_true, hq, hd] <;> with_reducible rfl)))) | (with_reducible apply bind2_intro; (focus (first | with_reducible rfl | (simp only [walkR, get0, getS, Nat.zero_add, Nat.add_zero, Bool.not_true, Bool.not_false, decide_true, decide_false, reduceIte, and_self, Bool.false_eq_true, hq, hd] <;> with_reducible rfl)))) | with_reducible apply cond_t | with_reducible apply cond_f))
      rw [dF h3]
      exact ⟨rfl, k.trans k1⟩
  · have hq : ((t : Int) == (p.2 : Int)) = false := by rw [Bool.eq_false_iff]; simp; omega
    rw [dF h2, Bool.false_and, Bool.or_false]
    by_cases h3 : p.2 < t
    · have hd : decide ((p.2 : Int) < (t : Int)) = true := dT (by omega)
      (repeat (first | (with_reducible apply bindP_intro; (focus (first | with_reducible rfl | (simp only [walkR, get0, getS, Nat.zero_add, Nat.add_zero, Bool.not_true, Bool.not_false, decide_true, decide_false, reduceIte, and_self, Bool.false_eq_true, hq, hd] <;> with_reducible rfl)))) | (with_reducible apply bind2_intro; (focus (first | with_reducible rfl | (simp only [walkR, get0, getS, Nat.zero_add, Nat.add_zero, Bool.not_true, Bool.not_false, decide_true, decide_false, reduceIte, and_self, Bool.false_eq_true, hq, hd] <;> with_reducible rfl)))) | with_reducible apply cond_t | with_reducible apply cond_f))
      rw [dT h3]
      exact ⟨rfl, k.trans k1⟩
    · have hd : decide ((p.2 : Int) < (t : Int)) = false := dF (by omega)
      (repeat (first | (with_reducible apply bindP_intro; (focus (first | with_reducible rfl | (simp only [walkR, get0, getS, Nat.zero_add, Nat.add_zero, Bool.not_true, Bool.not_false, decide_true, decide_false, reduceIte, and_self, Bool.false_eq_true, hq, hd] <;> with_reducible rfl)))) | (with_reducible apply bind2_intro; (focus (first | with_reducible rfl | (simp only [walkR, get0, getS, Nat.zero_add, Nat.add_zero, Bool.not_true, Bool.not_false, decide_true, decide_false, reduceIte, and_self, Bool.false_eq_true, hq, hd] <;> with_reducible rfl)))) | with_reducible apply cond_t | with_reducible apply cond_f))
      rw [dF h3]
      exact ⟨rfl, k.trans k1⟩

/-- One more entry at the end of a slice that is owned. -/
theorem push1 {lim : Nat} {H : Heap} {v : AVal} {xs : List Ent} {bv : Nat} (h : Own H 13 v (xs.map enc) bv) (hl : ∀ c, slBlk v = some c → lim ≤ c) (hlen : xs.length ≤ 100000) (e : Ent) :
    ∃ v' H' bv', aappend lim (H.push (.cells (enc e))) z0 48 false v (.sl (some (H.next, 0)) 1 (.ex 1)) = some (v', H') ∧ Own H' 13 v' ((xs ++ [e]).map enc) bv' ∧ Fram (fun c => slBlk v = some c) H H' ∧ (∀ c, slBlk v' = some c → H.next ≤ c) := by
  have kp : Keeps2 H (H.push (.cells (enc e))) := .push _ _
  have h' : Own (H.push (.cells (enc e))) 13 v (xs.map enc) bv := by
    rcases h.2 with ⟨q1, q2⟩ | ⟨o', cs, q1, q2, q3, q4⟩ | ⟨q1, q2⟩
    · exact ⟨h.1, .inl ⟨q1, q2⟩⟩
    · exact h.frame (Fram.of (S := fun _ => False) kp) (fun h => h)
    · exact h.frame (Fram.of (S := fun _ => False) kp) (fun h => h)
  have src : source (H.push (.cells (enc e))) 13 (.sl (some (H.next, 0)) 1 (.ex 1)) = some ([enc e].length, [enc e].flatten) := by
    have : Sl (H.push (.cells (enc e))) 13 (.sl (some (H.next, 0)) 1 (.ex 1)) [enc e] :=
      ⟨.inr ⟨H.next, 0, .ex 1, enc e, rfl, Nat.le_refl 1, cells_push_new _ _, Nat.le_refl 13, rfl⟩, fun x hx => by simp at hx; subst hx; rfl⟩
    exact this.source
  have hrm : room = 140737488355328 := rfl
  obtain ⟨v', H', bv', e1, e2, e3, e4, e5⟩ := own_append (lim := lim) (zero := z0) (bytes := 48) h' rfl (by omega) src (enc_each [e]) (by simp; omega) (by simp; omega) (fun hb => hl _ hb)
  refine ⟨v', H', bv', e1, by rw [List.map_append]; exact e2, (Fram.of kp).trans e3 (fun c _ e => e), fun c hc => ?_⟩
  have := e2.blk c hc
  subst this
  rcases e4 with ⟨_, h | h⟩ | h
  · simp at h
  · exact h.elim
  · rw [Heap.next_push] at h; omega

theorem fill1 (e : Ent) : fillV z0 [(0, 13, .agg (enc e))] = some (enc e) := rfl

/-- Where the entries from an index on begin. -/
theorem ref69_loop {R : Caller} {lim n : Nat} {K : AVal → Heap → Prop} {b i most : Nat} {H0 : Heap} (hf : L.Fits) (hs : L.es.length ≤ 100000) (hi : i < 18446744073709551616) (hm63 : most < 9223372036854775808) (hl0 : lim ≤ H0.next) (hb : b < H0.next)
    (hK : ∀ H' v' bv, Keeps2 H0 H' → Own H' 13 v' ((fromP L i most).map enc) bv → (∀ c, slBlk v' = some c → H0.next ≤ c) → K v' H') :
    ∀ (m k : Nat) (H : Heap) (v : AVal) (bv : Nat), Keeps2 H0 H → H0.cells b = some (refC L w) → Es H0 w L.es → Own H 13 v ((((L.es.take k).drop (max i (L.idx + 1) - L.idx - 1)).take most).map enc) bv → (∀ c, slBlk v = some c → H0.next ≤ c) → L.es.length < m + k → k ≤ L.es.length →
      F69_l0 R lim n K m (.int .u64 (i : Int)) (.int .i64 (most : Int)) (.ptr (some (b, 0))) v (.int .i64 (k : Int)) H
  | 0, k, H, v, bv, _, _, _, _, _, hm, hk => by exfalso; omega
  | m + 1, k, H, v, bv, k0, hc0, h0, ho, hv, hm, hk => by
    show F69_s0 R lim n K (F69_l0 R lim n K m) _ _ _ _ _ H
    unfold F69_s0 F69_j0 F69_j1
    have hc := k0.cells hc0
    have h := h0.keep k0
    by_cases h1 : k < L.es.length
    · have hd : decide ((k : Int) < (L.es.length : Int)) = true := dT (by omega)
      have hw : IntKind.i64.wrap ((k : Int) + 1) = ((k + 1 : Nat) : Int) := i64_succ (by omega)
      have hidx := hf.at' h1
      have htk : L.es.take (k + 1) = L.es.take k ++ [L.es[k]] := by rw [List.take_add_one, List.getElem?_eq_getElem h1]; rfl
      have htl : (L.es.take k).length = k := by rw [List.length_take]; omega
      generalize hD : max i (L.idx + 1) - L.idx - 1 = d at *
      have same : (k < d ∨ most ≤ k - d) → ((L.es.take (k + 1)).drop d).take most = ((L.es.take k).drop d).take most := by
        intro hc
        rw [htk]
        rcases hc with hc | hc
        · rw [List.drop_eq_nil_of_le (by simp; omega), List.drop_eq_nil_of_le (by omega)]
        · rcases Nat.lt_or_ge k d with hkd | hkd
          · rw [List.drop_eq_nil_of_le (by simp; omega), List.drop_eq_nil_of_le (by omega)]
          · rw [List.drop_append_of_le_length (by omega), List.take_append_of_le_length (by rw [List.length_drop, htl]; exact hc)]
      by_cases h2 : i ≤ L.es[k].idx
      · have hd2 : decide ((i : Int) ≤ ((L.es[k].idx : Nat) : Int)) = true := dT (by omega)
        have hol : alen false v = some (.int .i64 ((((L.es.take k).drop d).take most).length : Nat)) := by have := Sl.len ho.sl; simpa using this
        have hll : (((L.es.take k).drop d).take most).length = min most (k - d) := by rw [List.length_take, List.length_drop, htl]
        rw [hll] at hol
        by_cases h3 : k - d < most
        · have hd3 : decide (((min most (k - d) : Nat) : Int) < (most : Int)) = true := dT (by omega)
          obtain ⟨v', H', bv', e1, e2, e3, e4⟩ := push1 (lim := lim) ho (fun c hc => by have := hv c hc; omega) (by rw [hll]; omega) L.es[k]
          (repeat (first | (with_reducible apply bindP_intro; (focus (first | with_reducible rfl | (simp only [walkR, get0, getS, Nat.zero_add, Nat.add_zero, Bool.not_true, Bool.not_false, decide_true, decide_false, reduceIte, and_self, Bool.false_eq_true, aload_one hc, h.len, hd, h.addr h1, h.faddr h1, h.idx h1, h.idx' h1, hd2, hol, hd3, h.load h1, fill1, e1, hw] <;> with_reducible rfl)))) | (with_reducible apply bind2_intro; (focus (first | with_reducible rfl | (simp only [walkR, get0, getS, Nat.zero_add, Nat.add_zero, Bool.not_true, Bool.not_false, decide_true, decide_false, reduceIte, and_self, Bool.false_eq_true, aload_one hc, h.len, hd, h.addr h1, h.faddr h1, h.idx h1, h.idx' h1, hd2, hol, hd3, h.load h1, fill1, e1, hw] <;> with_reducible rfl)))) | with_reducible apply cond_t | with_reducible apply cond_f))
          have k1 : Keeps2 H0 H' := Fram.keeps k0 e3 (fun c hc hfc => by have := hv c hfc; omega)
          refine ref69_loop hf hs hi hm63 hl0 hb hK m (k + 1) H' v' bv' k1 hc0 h0 ?_ (fun c hc => by have := e4 c hc; have := k0.next; omega) (by omega) (by omega)
          have : ((L.es.take (k + 1)).drop d).take most = ((L.es.take k).drop d).take most ++ [L.es[k]] := by
            have hdk : d ≤ k := by omega
            rw [htk, List.drop_append_of_le_length (by omega), List.take_append, List.length_drop, htl]
            congr 1
            rw [List.take_of_length_le (by simp; omega)]
          rw [hD, this]
          exact e2
        · have hd3 : decide (((min most (k - d) : Nat) : Int) < (most : Int)) = false := dF (by omega)
          (repeat (first | (with_reducible apply bindP_intro; (focus (first | with_reducible rfl | (simp only [walkR, get0, getS, Nat.zero_add, Nat.add_zero, Bool.not_true, Bool.not_false, decide_true, decide_false, reduceIte, and_self, Bool.false_eq_true, aload_one hc, h.len, hd, h.addr h1, h.faddr h1, h.idx h1, h.idx' h1, hd2, hol, hd3, hw] <;> with_reducible rfl)))) | (with_reducible apply bind2_intro; (focus (first | with_reducible rfl | (simp only [walkR, get0, getS, Nat.zero_add, Nat.add_zero, Bool.not_true, Bool.not_false, decide_true, decide_false, reduceIte, and_self, Bool.false_eq_true, aload_one hc, h.len, hd, h.addr h1, h.faddr h1, h.idx h1, h.idx' h1, hd2, hol, hd3, hw] <;> with_reducible rfl)))) | with_reducible apply cond_t | with_reducible apply cond_f))
          refine ref69_loop hf hs hi hm63 hl0 hb hK m (k + 1) H v bv k0 hc0 h0 ?_ hv (by omega) (by omega)
          rw [hD, same (.inr (by omega))]; exact ho
      · have hd2 : decide ((i : Int) ≤ ((L.es[k].idx : Nat) : Int)) = false := dF (by omega)
        (repeat (first | (with_reducible apply bindP_intro; (focus (first | with_reducible rfl | (simp only [walkR, get0, getS, Nat.zero_add, Nat.add_zero, Bool.not_true, Bool.not_false, decide_true, decide_false, reduceIte, and_self, Bool.false_eq_true, aload_one hc, h.len, hd, h.addr h1, h.faddr h1, h.idx h1, h.idx' h1, hd2, hw] <;> with_reducible rfl)))) | (with_reducible apply bind2_intro; (focus (first | with_reducible rfl | (simp only [walkR, get0, getS, Nat.zero_add, Nat.add_zero, Bool.not_true, Bool.not_false, decide_true, decide_false, reduceIte, and_self, Bool.false_eq_true, aload_one hc, h.len, hd, h.addr h1, h.faddr h1, h.idx h1, h.idx' h1, hd2, hw] <;> with_reducible rfl)))) | with_reducible apply cond_t | with_reducible apply cond_f))
        refine ref69_loop hf hs hi hm63 hl0 hb hK m (k + 1) H v bv k0 hc0 h0 ?_ hv (by omega) (by omega)
        rw [hD, same (.inl (by omega))]; exact ho
    · have hd : decide ((k : Int) < (L.es.length : Int)) = false := dF (by omega)
      (repeat (first | (with_reducible apply bindP_intro; (focus (first | with_reducible rfl | (simp only [walkR, get0, getS, Nat.zero_add, Nat.add_zero, Bool.not_true, Bool.not_false, decide_true, decide_false, reduceIte, and_self, Bool.false_eq_true, aload_one hc, h.len, hd] <;> with_reducible rfl)))) | (with_reducible apply bind2_intro; (focus (first | with_reducible rfl | (simp only [walkR, get0, getS, Nat.zero_add, Nat.add_zero, Bool.not_true, Bool.not_false, decide_true, decide_false, reduceIte, and_self, Bool.false_eq_true, aload_one hc, h.len, hd] <;> with_reducible rfl)))) | with_reducible apply cond_t | with_reducible apply cond_f))
      refine hK H v bv k0 ?_ hv
      rw [show L.es.take k = L.es from List.take_of_length_le (by omega)] at ho
      exact ho

theorem ref69 {n lim : Nat} (h : Es H w L.es) (hf : L.Fits) (hs : L.es.length ≤ 100000) (hn : L.es.length < n) (hl : lim ≤ H.next) {i most : Nat} (hi : i < 18446744073709551616) (hm : most < 9223372036854775808) :
    ∃ r H', Ahs.runT ap (n + 1) lim (.fn 69) [ref L w, .int .u64 (i : Int), .int .i64 (most : Int)] H = some (r, H') ∧ (∃ b, Own H' 13 r ((fromP L i most).map enc) b) ∧ Keeps2 H H' ∧ (∀ c, slBlk r = some c → H.next ≤ c) := by
  refine F69_run (n := n) a69 ?_
  unfold F69
  have ho := ref_ones h
  have k : Keeps2 H (H.push (.cells (refC L w))) := .push _ _
  have hx := Heap.next_push H (.cells (refC L w))
  (repeat (first | (with_reducible apply bindP_intro; (focus (first | with_reducible rfl | (simp only [walkR, get0, getS, Nat.zero_add, Nat.add_zero, Bool.not_true, Bool.not_false, decide_true, decide_false, reduceIte, and_self, Bool.false_eq_true, ho] <;> with_reducible rfl)))) | (with_reducible apply bind2_intro; (focus (first | with_reducible rfl | (simp only [walkR, get0, getS, Nat.zero_add, Nat.add_zero, Bool.not_true, Bool.not_false, decide_true, decide_false, reduceIte, and_self, Bool.false_eq_true, ho] <;> with_reducible rfl)))) | with_reducible apply cond_t | with_reducible apply cond_f))
  refine ref69_loop (H0 := H.push (.cells (refC L w))) (w := w) hf hs hi hm (by omega) (by omega) (fun H' v' bv k1 o1 f1 => ⟨⟨bv, o1⟩, k.trans k1, fun c hc => by have := f1 c hc; omega⟩) n 0 _ (.sl none 0 (.ex 0)) 0 (.refl _) (cells_push_new H _) (h.keep k) ?_ (fun c hc => by simp [slBlk] at hc) (by omega) (by omega)
  rw [List.take_zero, List.drop_nil, List.take_nil]
  exact ⟨fun _ h => by simp at h, .inl ⟨rfl, rfl⟩⟩

theorem ref66_loop {R : Caller} {lim n : Nat} {K : AVal → Heap → Prop} {b i : Nat} {H0 : Heap} (hs : L.es.length ≤ 100000) (hl0 : lim ≤ H0.next)
    (hK : ∀ H', Keeps2 H0 H' → K (.tup [.int .u8 ((upToP L i).1 : Int), .int .u64 ((upToP L i).2 : Int)]) H') :
    ∀ (m k : Nat) (H : Heap), Keeps2 H0 H → H0.cells b = some (refC L w) → Es H0 w L.es → L.es.length < m + k → k ≤ L.es.length →
      F66_l0 R lim n K m (.int .u64 (i : Int)) (.ptr (some (b, 0))) (.int .u8 ((pickM L.mem L.idx ((L.es.take k).reverse.find? (tells i))).1 : Int)) (.int .u64 ((pickM L.mem L.idx ((L.es.take k).reverse.find? (tells i))).2 : Int)) (.int .i64 (k : Int)) H
  | 0, k, H, _, _, _, hm, hk => by exfalso; omega
  | m + 1, k, H, k0, hc0, h0, hm, hk => by
    show F66_s0 R lim n K (F66_l0 R lim n K m) _ _ _ _ _ H
    unfold F66_s0 F66_j0
    have hc := k0.cells hc0
    have h := h0.keep k0
    have hl : lim ≤ H.next := Nat.le_trans hl0 k0.next
    by_cases h1 : k < L.es.length
    · have hd : decide ((k : Int) < (L.es.length : Int)) = true := dT (by omega)
      have hw : IntKind.i64.wrap ((k : Int) + 1) = ((k + 1 : Nat) : Int) := i64_succ (by omega)
      have hrr : (L.es.take (k + 1)).reverse.find? (tells i) = if tells i L.es[k] = true then some L.es[k] else (L.es.take k).reverse.find? (tells i) := by
        rw [List.take_add_one, List.getElem?_eq_getElem h1]
        simp only [Option.toList_some, List.reverse_append, List.reverse_cons, List.reverse_nil, List.nil_append, List.cons_append, List.find?_cons]
        cases tells i L.es[k] <;> rfl
      have kp : Keeps2 H (H.push (.cells (enc L.es[k]))) := .push _ _
      have next := ref66_loop (R := R) (lim := lim) (n := n) (K := K) (b := b) (i := i) hs hl0 hK m (k + 1) _ (k0.trans kp) hc0 h0 (by omega) (by omega)
      rw [hrr] at next
      by_cases p1 : L.es[k].idx ≤ i
      · have d1 : decide (((L.es[k].idx : Nat) : Int) ≤ (i : Int)) = true := dT (by omega)
        by_cases p2 : L.es[k].kind = 2
        · have d2 : (((L.es[k].kind : Nat) : Int) == 2) = true := by rw [p2]; rfl
          by_cases p3 : L.es[k].body.length = 1
          · have d3 : (((L.es[k].body.length : Nat) : Int) == 1) = true := by rw [p3]; rfl
            obtain ⟨x, hx⟩ := List.length_eq_one_iff.1 p3
            have hidx : aindexStr (.str L.es[k].body) (.int .i64 0) = some (.int .u8 (x.toNat : Int)) := by rw [hx]; rfl
            have ht : tells i L.es[k] = true := by unfold tells; rw [dT p1, dT p2, dT p3]; rfl
            rw [if_pos ht] at next
            have hp : pickM L.mem L.idx (some L.es[k]) = (x.toNat, L.es[k].idx) := by
              show ((L.es[k].body.head?.map (·.toNat)).getD 0, L.es[k].idx) = _
              rw [hx]; rfl
            rw [hp] at next
            unfold F66_j1
            (repeat (first | (with_reducible apply bindP_intro; (focus (first | with_reducible rfl | (simp only [walkR, get0, getS, Nat.zero_add, Nat.add_zero, Bool.not_true, Bool.not_false, decide_true, decide_false, reduceIte, and_self, Bool.false_eq_true, aload_one hc, h.len, hd, h.addr h1, h.load h1, st13 hl, aload_new1, enc0, enc2, enc12, d1, d2, d3, hidx, hw] <;> with_reducible rfl)))) | (with_reducible apply bind2_intro; (focus (first | with_reducible rfl | (simp only [walkR, get0, getS, Nat.zero_add, Nat.add_zero, Bool.not_true, Bool.not_false, decide_true, decide_false, reduceIte, and_self, Bool.false_eq_true, aload_one hc, h.len, hd, h.addr h1, h.load h1, st13 hl, aload_new1, enc0, enc2, enc12, d1, d2, d3, hidx, hw] <;> with_reducible rfl)))) | with_reducible apply cond_t | with_reducible apply cond_f))
            exact next
          · have d3 : (((L.es[k].body.length : Nat) : Int) == 1) = false := by rw [Bool.eq_false_iff]; simp; omega
            have ht : ¬ tells i L.es[k] = true := by unfold tells; rw [dF p3, Bool.and_false, Bool.and_false]; simp
            rw [if_neg ht] at next
            unfold F66_j1
            (repeat (first | (with_reducible apply bindP_intro; (focus (first | with_reducible rfl | (simp only [walkR, get0, getS, Nat.zero_add, Nat.add_zero, Bool.not_true, Bool.not_false, decide_true, decide_false, reduceIte, and_self, Bool.false_eq_true, aload_one hc, h.len, hd, h.addr h1, h.load h1, st13 hl, aload_new1, enc0, enc2, enc12, d1, d2, d3, hw] <;> with_reducible rfl)))) | (with_reducible apply bind2_intro; (focus (first | with_reducible rfl | (simp only [walkR, get0, getS, Nat.zero_add, Nat.add_zero, Bool.not_true, Bool.not_false, decide_true, decide_false, reduceIte, and_self, Bool.false_eq_true, aload_one hc, h.len, hd, h.addr h1, h.load h1, st13 hl, aload_new1, enc0, enc2, enc12, d1, d2, d3, hw] <;> with_reducible rfl)))) | with_reducible apply cond_t | with_reducible apply cond_f))
            exact next
        · have d2 : (((L.es[k].kind : Nat) : Int) == 2) = false := by rw [Bool.eq_false_iff]; simp; omega
          have ht : ¬ tells i L.es[k] = true := by unfold tells; rw [dF p2, Bool.false_and, Bool.and_false]; simp
          rw [if_neg ht] at next
          unfold F66_j1
          (repeat (first | (with_reducible apply bindP_intro; (focus (first | with_reducible rfl | (simp only [walkR, get0, getS, Nat.zero_add, Nat.add_zero, Bool.not_true, Bool.not_false, decide_true, decide_false, reduceIte, and_self, Bool.false_eq_true, aload_one hc, h.len, hd, h.addr h1, h.load h1, st13 hl, aload_new1, enc0, enc2, d1, d2, hw] <;> with_reducible rfl)))) | (with_reducible apply bind2_intro; (focus (first | with_reducible rfl | (simp only [walkR, get0, getS, Nat.zero_add, Nat.add_zero, Bool.not_true, Bool.not_false, decide_true, decide_false, reduceIte, and_self, Bool.false_eq_true, aload_one hc, h.len, hd, h.addr h1, h.load h1, st13 hl, aload_new1, enc0, enc2, d1, d2, hw] <;> with_reducible rfl)))) | with_reducible apply cond_t | with_reducible apply cond_f))
          exact next
      · have d1 : decide (((L.es[k].idx : Nat) : Int) ≤ (i : Int)) = false := dF (by omega)
        have ht : ¬ tells i L.es[k] = true := by unfold tells; rw [dF p1, Bool.false_and]; simp
        rw [if_neg ht] at next
        unfold F66_j1
        (repeat (first | (with_reducible apply bindP_intro; (focus (first | with_reducible rfl | (simp only [walkR, get0, getS, Nat.zero_add, Nat.add_zero, Bool.not_true, Bool.not_false, decide_true, decide_false, reduceIte, and_self, Bool.false_eq_true, aload_one hc, h.len, hd, h.addr h1, h.load h1, st13 hl, aload_new1, enc0, d1, hw] <;> with_reducible rfl)))) | (with_reducible apply bind2_intro; (focus (first | with_reducible rfl | (simp only [walkR, get0, getS, Nat.zero_add, Nat.add_zero, Bool.not_true, Bool.not_false, decide_true, decide_false, reduceIte, and_self, Bool.false_eq_true, aload_one hc, h.len, hd, h.addr h1, h.load h1, st13 hl, aload_new1, enc0, d1, hw] <;> with_reducible rfl)))) | with_reducible apply cond_t | with_reducible apply cond_f))
        exact next
    · have hd : decide ((k : Int) < (L.es.length : Int)) = false := dF (by omega)
      (repeat (first | (with_reducible apply bindP_intro; (focus (first | with_reducible rfl | (simp only [walkR, get0, getS, Nat.zero_add, Nat.add_zero, Bool.not_true, Bool.not_false, decide_true, decide_false, reduceIte, and_self, Bool.false_eq_true, aload_one hc, h.len, hd] <;> with_reducible rfl)))) | (with_reducible apply bind2_intro; (focus (first | with_reducible rfl | (simp only [walkR, get0, getS, Nat.zero_add, Nat.add_zero, Bool.not_true, Bool.not_false, decide_true, decide_false, reduceIte, and_self, Bool.false_eq_true, aload_one hc, h.len, hd] <;> with_reducible rfl)))) | with_reducible apply cond_t | with_reducible apply cond_f))
      have := hK H k0
      unfold upToP at this
      rw [List.take_of_length_le (by omega)]
      exact this

theorem ref66 {n lim : Nat} (h : Es H w L.es) (hs : L.es.length ≤ 100000) (hn : L.es.length < n) (hl : lim ≤ H.next) {i : Nat} :
    ∃ r H', Ahs.runT ap (n + 1) lim (.fn 66) [ref L w, .int .u64 (i : Int)] H = some (r, H') ∧ r = .tup [.int .u8 ((upToP L i).1 : Int), .int .u64 ((upToP L i).2 : Int)] ∧ Keeps2 H H' := by
  refine F66_run (n := n) a66 ?_
  unfold F66
  have ho := ref_ones h
  have k : Keeps2 H (H.push (.cells (refC L w))) := .push _ _
  have hx := Heap.next_push H (.cells (refC L w))
  (repeat (first | (with_reducible apply bindP_intro; (focus (first | with_reducible rfl | (simp only [walkR, get0, getS, Nat.zero_add, Nat.add_zero, Bool.not_true, Bool.not_false, decide_true, decide_false, reduceIte, and_self, Bool.false_eq_true, ho, aload_new1] <;> with_reducible rfl)))) | (with_reducible apply bind2_intro; (focus (first | with_reducible rfl | (simp only [walkR, get0, getS, Nat.zero_add, Nat.add_zero, Bool.not_true, Bool.not_false, decide_true, decide_false, reduceIte, and_self, Bool.false_eq_true, ho, aload_new1] <;> with_reducible rfl)))) | with_reducible apply cond_t | with_reducible apply cond_f))
  exact ref66_loop (H0 := H.push (.cells (refC L w))) (w := w) hs (by omega) (fun H' k1 => ⟨rfl, k.trans k1⟩) n 0 _ (.refl _) (cells_push_new H _) (h.keep k) (by omega) (by omega)

theorem ref29_loop {R : Caller} {lim n : Nat} {K : AVal → Heap → Prop} {es : List Ent} (h : Es H w es) (hok : ∀ e ∈ es, e.ok) (hs : es.length < 9223372036854775807) :
    ∀ (m k i t : Nat), es.length < m + k → k ≤ es.length → i < 18446744073709551616 → K (.bool (fitP i t (es.drop k))) H → F29_l0 R lim n K m (.int .u64 (i : Int)) (.int .u64 (t : Int)) w (.int .i64 (k : Int)) H
  | 0, k, i, t, hm, hk, _, _ => by exfalso; omega
  | m + 1, k, i, t, hm, hk, hi, hK => by
    show F29_s0 R lim n K (F29_l0 R lim n K m) _ _ _ _ H
    unfold F29_s0 F29_j0
    by_cases h1 : k < es.length
    · have hd : decide ((k : Int) < (es.length : Int)) = true := dT (by omega)
      have hw : IntKind.i64.wrap ((k : Int) + 1) = ((k + 1 : Nat) : Int) := i64_succ (by omega)
      have ok := (hok es[k] (List.getElem_mem h1)).idx
      rw [List.drop_eq_getElem_cons h1] at hK
      unfold fitP at hK
      by_cases h2 : i = 18446744073709551615
      · have hq : ((i : Int) == 18446744073709551615) = true := by rw [h2]; rfl
        (repeat (first | (with_reducible apply bindP_intro; (focus (first | with_reducible rfl | (simp only [walkR, get0, getS, Nat.zero_add, Nat.add_zero, Bool.not_true, Bool.not_false, decide_true, decide_false, reduceIte, and_self, Bool.false_eq_true, h.len, hd, hq] <;> with_reducible rfl)))) | (with_reducible apply bind2_intro; (focus (first | with_reducible rfl | (simp only [walkR, get0, getS, Nat.zero_add, Nat.add_zero, Bool.not_true, Bool.not_false, decide_true, decide_false, reduceIte, and_self, Bool.false_eq_true, h.len, hd, hq] <;> with_reducible rfl)))) | with_reducible apply cond_t | with_reducible apply cond_f))
        rw [dF (show ¬ es[k].idx = i + 1 by omega), Bool.false_and] at hK
        exact hK
      · have hq : ((i : Int) == 18446744073709551615) = false := by rw [Bool.eq_false_iff]; simp; omega
        have hwi : IntKind.u64.wrap ((i : Int) + 1) = ((i + 1 : Nat) : Int) := u64_succ (by omega)
        by_cases h3 : es[k].idx = i + 1
        · have hq2 : (((es[k].idx : Nat) : Int) != ((i + 1 : Nat) : Int)) = false := by rw [h3]; simp
          rw [dT h3, Bool.true_and] at hK
          by_cases h4 : t ≤ es[k].term
          · have hd4 : decide (((es[k].term : Nat) : Int) < (t : Int)) = false := dF (by omega)
            rw [dT h4, Bool.true_and] at hK
            (repeat (first | (with_reducible apply bindP_intro; (focus (first | with_reducible rfl | (simp only [walkR, get0, getS, Nat.zero_add, Nat.add_zero, Bool.not_true, Bool.not_false, decide_true, decide_false, reduceIte, and_self, Bool.false_eq_true, h.len, hd, hq, h.addr h1, h.faddr h1, h.idx h1, h.idx' h1, hwi, hq2, h.term h1, hd4, hw] <;> with_reducible rfl)))) | (with_reducible apply bind2_intro; (focus (first | with_reducible rfl | (simp only [walkR, get0, getS, Nat.zero_add, Nat.add_zero, Bool.not_true, Bool.not_false, decide_true, decide_false, reduceIte, and_self, Bool.false_eq_true, h.len, hd, hq, h.addr h1, h.faddr h1, h.idx h1, h.idx' h1, hwi, hq2, h.term h1, hd4, hw] <;> with_reducible rfl)))) | with_reducible apply cond_t | with_reducible apply cond_f))
            exact ref29_loop h hok hs m (k + 1) _ _ (by omega) (by omega) ok hK
          · have hd4 : decide (((es[k].term : Nat) : Int) < (t : Int)) = true := dT (by omega)
            rw [dF h4, Bool.false_and] at hK
            (repeat (first | (with_reducible apply bindP_intro; (focus (first | with_reducible rfl | (simp only [walkR, get0, getS, Nat.zero_add, Nat.add_zero, Bool.not_true, Bool.not_false, decide_true, decide_false, reduceIte, and_self, Bool.false_eq_true, h.len, hd, hq, h.addr h1, h.faddr h1, h.idx h1, h.idx' h1, hwi, hq2, h.term h1, hd4] <;> with_reducible rfl)))) | (with_reducible apply bind2_intro; (focus (first | with_reducible rfl | (simp only [walkR, get0, getS, Nat.zero_add, Nat.add_zero, Bool.not_true, Bool.not_false, decide_true, decide_false, reduceIte, and_self, Bool.false_eq_true, h.len, hd, hq, h.addr h1, h.faddr h1, h.idx h1, h.idx' h1, hwi, hq2, h.term h1, hd4] <;> with_reducible rfl)))) | with_reducible apply cond_t | with_reducible apply cond_f))
            exact hK
        · have hq2 : (((es[k].idx : Nat) : Int) != ((i + 1 : Nat) : Int)) = true := by simp; omega
          rw [dF h3, Bool.false_and] at hK
          (repeat (first | (with_reducible apply bindP_intro; (focus (first | with_reducible rfl | (simp only [walkR, get0, getS, Nat.zero_add, Nat.add_zero, Bool.not_true, Bool.not_false, decide_true, decide_false, reduceIte, and_self, Bool.false_eq_true, h.len, hd, hq, h.addr h1, h.faddr h1, h.idx h1, h.idx' h1, hwi, hq2] <;> with_reducible rfl)))) | (with_reducible apply bind2_intro; (focus (first | with_reducible rfl | (simp only [walkR, get0, getS, Nat.zero_add, Nat.add_zero, Bool.not_true, Bool.not_false, decide_true, decide_false, reduceIte, and_self, Bool.false_eq_true, h.len, hd, hq, h.addr h1, h.faddr h1, h.idx h1, h.idx' h1, hwi, hq2] <;> with_reducible rfl)))) | with_reducible apply cond_t | with_reducible apply cond_f))
          exact hK
    · have hd : decide ((k : Int) < (es.length : Int)) = false := dF (by omega)
      (repeat (first | (with_reducible apply bindP_intro; (focus (first | with_reducible rfl | (simp only [walkR, get0, getS, Nat.zero_add, Nat.add_zero, Bool.not_true, Bool.not_false, decide_true, decide_false, reduceIte, and_self, Bool.false_eq_true, h.len, hd] <;> with_reducible rfl)))) | (with_reducible apply bind2_intro; (focus (first | with_reducible rfl | (simp only [walkR, get0, getS, Nat.zero_add, Nat.add_zero, Bool.not_true, Bool.not_false, decide_true, decide_false, reduceIte, and_self, Bool.false_eq_true, h.len, hd] <;> with_reducible rfl)))) | with_reducible apply cond_t | with_reducible apply cond_f))
      rw [List.drop_eq_nil_of_le (by omega)] at hK
      exact hK

theorem ref29 {n lim : Nat} {es : List Ent} (h : Es H w es) (hok : ∀ e ∈ es, e.ok) (hs : es.length < 9223372036854775807) (hn : es.length < n) {i t : Nat} (hi : i < 18446744073709551616) :
    Ahs.runT ap (n + 1) lim (.fn 29) [.int .u64 (i : Int), .int .u64 (t : Int), w] H = some (.bool (fitP i t es), H) := by
  refine run_eqn (F29_run (n := n) a29 ?_)
  unfold F29
  exact ref29_loop h hok hs n 0 i t (by omega) (by omega) hi ⟨by rw [List.drop_zero], rfl⟩

end
end Go.Proofs.Ytpefhojmfcenfaa.logs

set_option maxRecDepth 100000
set_option linter.unusedVariables false
set_option linter.unusedSimpArgs false
namespace Go.Proofs.Ytpefhojmfcenfaa.logs
open Go.Ahs

section
variable {H : Heap} {w : AVal} {L : Lg}

theorem ldC {b : Nat} (hc : H.cells b = some (refC L w)) : aload H (some 4) (ptr b) = some (ref L w) := by rw [aload_agg hc]; rfl
theorem ld13b {b : Nat} {e : Ent} (hc : H.cells b = some (enc e)) : aload H (some 13) (ptr b) = some (.agg (enc e)) := by rw [aload_agg hc]; rfl
theorem refC_one (L : Lg) (h : w.one = true) : (refC L w).all (·.one) = true := by
  show (true && (true && (true && (w.one && true)))) = true
  rw [h]; rfl
theorem stC {lim b : Nat} {cs : List AVal} (hc : H.cells b = some cs) (hl : cs.length = 4) (hb : lim ≤ b) (hw : w.one = true) : astore lim H 4 (ptr b) (ref L w) = some (H.set b (.cells (refC L w))) := astore_whole hc hb (refC_one L hw) rfl hl
theorem st3C {lim b : Nat} {v : AVal} {L' : Lg} (hc : H.cells b = some (refC L v)) (hb : lim ≤ b) (hw : w.one = true ∧ w.cells = [w]) (h1 : L'.idx = L.idx) (h2 : L'.term = L.term) (h3 : L'.mem = L.mem) : astore lim H 1 (.ptr (some (b, 3))) w = some (H.set b (.cells (refC L' w))) :=
  astore_cell hc hb hw.2 hw.1 (by show 3 < 4; omega) (by unfold refC; rw [h1, h2, h3]; rfl)

/-- What is appended to an empty slice that has no room. -/
theorem nil_append {lim : Nat} {x : AVal} {es : List Ent} {b : Nat} (hc : H.cells b = some []) (hsrc : Es H x es) (hs : es.length ≤ 100000) :
    ∃ v' H' bv', aappend lim H z0 48 false (.sl (some (b, 0)) 0 (.ex 0)) x = some (v', H') ∧ Own H' 13 v' (es.map enc) bv' ∧ Keeps2 H H' ∧ (∀ c, slBlk v' = some c → c = b ∨ H.next ≤ c) := by
  have hrm : room = 140737488355328 := rfl
  rw [aappend_eq (zero := z0) (Sl.source hsrc) (flatten_one fun y hy' => (enc_each es y hy').2) (by decide)]
  by_cases h0 : es.length = 0
  · have hnil : es = [] := List.length_eq_zero_iff.1 h0
    subst hnil
    exact ⟨_, H, b, by simp, ⟨fun _ h => by simp at h, .inr (.inl ⟨0, [], rfl, rfl, hc, Nat.le_refl 0⟩)⟩, .refl _, fun c hc => by simp [slBlk] at hc; exact .inl hc.symm⟩
  · refine ⟨.sl (some (H.next, 0)) (es.map enc).length (.op 13), H.push (.cells (es.map enc).flatten), H.next, ?_, ⟨enc_each es, .inr (.inr ⟨rfl, cells_push_new H _⟩)⟩, .push _ _, fun c hc => by simp [slBlk] at hc; exact .inr (by omega)⟩
    have h1 : ¬ (es.map enc).length = 0 := by simpa using h0
    have h2 : (es.map enc).length = es.length := by simp
    simp only [h1, if_false, Nat.zero_add]
    rw [if_neg (by omega), hc]
    simp only [Option.bind_eq_bind, Option.bind_some]
    rw [if_neg (by omega)]
    simp only [Ahs.cut, Nat.zero_mul, Nat.add_zero, List.length_nil, Nat.le_refl, if_true, List.drop_nil, List.take_nil, Option.bind_some, List.all_nil, and_self, List.nil_append]
    rfl

theorem ref61_tail {R : Caller} {lim n : Nat} {K : AVal → Heap → Prop} {b0 b1 b2 b3 : Nat} {e : Ent} (c0 : H.cells b0 = some (refC L w)) (c1 : H.cells b1 = some (enc e)) (c2 : H.cells b2 = some z1) (c3 : H.cells b3 = some z0) (he : Es H w L.es) (l0 : lim ≤ b0) (l2 : lim ≤ b2) (l3 : lim ≤ b3) (d01 : b0 < b1) (d12 : b1 < b2) (d23 : b2 < b3) (hs : L.es.length ≤ 90000)
    (hK : ∀ w' H' bv, Own H' 13 w' ((L.es ++ [e]).map enc) bv → Fram (fun c => c = b0 ∨ c = b2 ∨ c = b3) H H' → (∀ c, slBlk w' = some c → H.next ≤ c) → K (.tup [ref { L with es := L.es ++ [e] } w', .agg (enc e)]) H') :
    F61_j0 R lim n K (ptr b0) (ptr b1) (ptr b2) (ptr b3) H := by
  unfold F61_j0
  have hf0 : fillV [] [] = some [] := rfl
  have kp : Keeps2 H (H.push (.cells [])) := .push _ _
  obtain ⟨v1, H1, bv1, e1, o1, k1, f1⟩ := nil_append (lim := (H.push (.cells [])).next) (cells_push_new H []) (he.keep kp) (by omega)
  have hn1 : (H.push (.cells [])).next = H.next + 1 := Heap.next_push _ _
  have n1 := k1.next
  have k01 := kp.trans k1
  have f1' : ∀ c, slBlk v1 = some c → H.next ≤ c := fun c hc => by rcases f1 c hc with h | h <;> omega
  have b3lt := Heap.cells_lt c3
  obtain ⟨v2, H2, bv2, e2, o2, fr2, f2⟩ := push1 (lim := lim) o1 (fun c hc => by have := f1' c hc; omega) (by omega) e
  have n2 := fr2.next
  have k02 : Keeps2 H H2 := Fram.keeps k01 fr2 (fun c hc e0 => by have := f1' c e0; omega)
  have ho2 := o2.one
  have bv2n : ∀ c, slBlk v2 = some c → H.next ≤ c := fun c hc => by have := f2 c hc; omega
  have s3 : astore lim H2 1 (.ptr (some (b0, 3))) v2 = some (H2.set b0 (.cells (refC { L with es := L.es ++ [e] } v2))) := st3C (k02.cells c0) l0 ho2 rfl rfl rfl
  generalize hH3 : H2.set b0 (.cells (refC { L with es := L.es ++ [e] } v2)) = H3 at s3
  have n3 : H3.next = H2.next := by rw [← hH3, Heap.next_set]
  have x0 : H3.cells b0 = some (refC { L with es := L.es ++ [e] } v2) := by rw [← hH3]; exact cells_set_same (by omega)
  have x1 : H3.cells b1 = some (enc e) := by rw [← hH3]; exact cells_set_other (k02.cells c1) (by omega)
  have x2 : H3.cells b2 = some z1 := by rw [← hH3]; exact cells_set_other (k02.cells c2) (by omega)
  have x3 : H3.cells b3 = some z0 := by rw [← hH3]; exact cells_set_other (k02.cells c3) (by omega)
  have fr3 : Fram (fun c => c = b0 ∨ c = b2 ∨ c = b3) H H3 := by rw [← hH3]; exact (Fram.of k02).set' (.inl (.inl rfl))
  have s4 : astore lim H3 4 (ptr b2) (ref { L with es := L.es ++ [e] } v2) = some (H3.set b2 (.cells (refC { L with es := L.es ++ [e] } v2))) := stC x2 rfl l2 ho2.1
  generalize hH4 : H3.set b2 (.cells (refC { L with es := L.es ++ [e] } v2)) = H4 at s4
  have y2 : H4.cells b2 = some (refC { L with es := L.es ++ [e] } v2) := by rw [← hH4]; exact cells_set_same (by omega)
  have y3 : H4.cells b3 = some z0 := by rw [← hH4]; exact cells_set_other x3 (by omega)
  have s5 : astore lim H4 13 (ptr b3) (.agg (enc e)) = some (H4.set b3 (.cells (enc e))) := astore_whole y3 l3 rfl rfl rfl
  generalize hH5 : H4.set b3 (.cells (enc e)) = H5 at s5
  have n4 : H4.next = H3.next := by rw [← hH4, Heap.next_set]
  have w2 : H5.cells b2 = some (refC { L with es := L.es ++ [e] } v2) := by rw [← hH5]; exact cells_set_other y2 (by omega)
  have w3 : H5.cells b3 = some (enc e) := by rw [← hH5]; exact cells_set_same (by omega)
  have hap : (apartB (ptr b1) (ptr b2) && true) = true := by
    simp only [apartB, blkOf, Bool.and_true, Bool.not_eq_true', beq_eq_false_iff_ne]
    omega
  have l1 := ld13b (k01.cells c1)
  (repeat (first | (with_reducible apply bindP_intro; (focus (first | with_reducible rfl | (simp only [walkR, get0, getS, Nat.zero_add, Nat.add_zero, Bool.not_true, Bool.not_false, decide_true, decide_false, reduceIte, and_self, Bool.false_eq_true, hf0, aload_one (kp.cells c0), e1, l1, fill1, e2, s3, ldC x0] <;> with_reducible rfl)))) | (with_reducible apply bind2_intro; (focus (first | with_reducible rfl | (simp only [walkR, get0, getS, Nat.zero_add, Nat.add_zero, Bool.not_true, Bool.not_false, decide_true, decide_false, reduceIte, and_self, Bool.false_eq_true, hf0, aload_one (kp.cells c0), e1, l1, fill1, e2, s3, ldC x0] <;> with_reducible rfl)))) | with_reducible apply cond_t | with_reducible apply cond_f))
  refine ⟨hap, ?_⟩
  (repeat (first | (with_reducible apply bindP_intro; (focus (first | with_reducible rfl | (simp only [walkR, get0, getS, Nat.zero_add, Nat.add_zero, Bool.not_true, Bool.not_false, decide_true, decide_false, reduceIte, and_self, Bool.false_eq_true, ld13b x1, s4, s5, ldC w2, ld13b w3] <;> with_reducible rfl)))) | (with_reducible apply bind2_intro; (focus (first | with_reducible rfl | (simp only [walkR, get0, getS, Nat.zero_add, Nat.add_zero, Bool.not_true, Bool.not_false, decide_true, decide_false, reduceIte, and_self, Bool.false_eq_true, ld13b x1, s4, s5, ldC w2, ld13b w3] <;> with_reducible rfl)))) | with_reducible apply cond_t | with_reducible apply cond_f))
  have fr5 : Fram (fun c => c = b0 ∨ c = b2 ∨ c = b3) H H5 := by
    rw [← hH5, ← hH4]
    exact (fr3.set' (.inl (.inr (.inl rfl)))).set' (.inl (.inr (.inr rfl)))
  refine hK v2 H5 bv2 ?_ fr5 bv2n
  have fr35 : Fram (fun c => c = b0 ∨ c = b2 ∨ c = b3) H2 H5 := by
    rw [← hH5, ← hH4, ← hH3]
    exact (((Fram.refl _ _).set' (.inl (.inl rfl))).set' (.inl (.inr (.inl rfl)))).set' (.inl (.inr (.inr rfl)))
  rcases o2.2 with ⟨q1, q2⟩ | ⟨o', cs, q1, q2, q3, q4⟩ | ⟨q1, q2⟩
  · exact ⟨o2.1, .inl ⟨q1, q2⟩⟩
  · exact o2.frame fr35 (fun e0 => by have := bv2n bv2 (by rw [q1]; rfl); omega)
  · exact o2.frame fr35 (fun e0 => by have := bv2n bv2 (by rw [q1]; rfl); omega)

theorem ref61 {n lim : Nat} (h : Es H w L.es) (hs : L.es.length ≤ 90000) (hl : lim ≤ H.next) (e : Ent) (hi : (lastP L).1 < 18446744073709551615) :
    ∃ r H', Ahs.runT ap (n + 2) lim (.fn 61) [ref L w, .agg (enc e)] H = some (r, H') ∧ ∃ w' b, r = .tup [ref (addP L e) w', .agg (enc (addE L e))] ∧ Own H' 13 w' ((addP L e).es.map enc) b ∧ Keeps2 H H' ∧ (∀ c, slBlk w' = some c → H.next ≤ c) := by
  refine F61_run (n := n + 1) a61 ?_
  unfold F61
  have ho := ref_ones h
  have hone := sl_one h
  generalize hH2 : H.push (.cells (refC L w)) = H2
  generalize hH4 : H2.push (.cells (enc e)) = H4
  generalize hH5 : H4.push (.cells z1) = H5
  generalize hH6 : H5.push (.cells z0) = H6
  have k2 : Keeps2 H H2 := by rw [← hH2]; exact .push _ _
  have k4 : Keeps2 H2 H4 := by rw [← hH4]; exact .push _ _
  have k5 : Keeps2 H4 H5 := by rw [← hH5]; exact .push _ _
  have k6 : Keeps2 H5 H6 := by rw [← hH6]; exact .push _ _
  have n2 : H2.next = H.next + 1 := by rw [← hH2, Heap.next_push]
  have n4 : H4.next = H.next + 2 := by rw [← hH4, Heap.next_push, n2]
  have n5 : H5.next = H.next + 3 := by rw [← hH5, Heap.next_push, n4]
  have n6 : H6.next = H.next + 4 := by rw [← hH6, Heap.next_push, n5]
  have k06 := ((k2.trans k4).trans k5).trans k6
  have c0 : H6.cells H.next = some (refC L w) := ((k4.trans k5).trans k6).cells (by rw [← hH2]; exact cells_push_new _ _)
  have c1 : H6.cells H2.next = some (enc e) := (k5.trans k6).cells (by rw [← hH4]; exact cells_push_new _ _)
  have c2 : H6.cells H4.next = some z1 := k6.cells (by rw [← hH5]; exact cells_push_new _ _)
  have c3 : H6.cells H5.next = some z0 := by rw [← hH6]; exact cells_push_new _ _
  (repeat (first | (with_reducible apply bindP_intro; (focus (first | with_reducible rfl | (simp only [walkR, get0, getS, Nat.zero_add, Nat.add_zero, Bool.not_true, Bool.not_false, decide_true, decide_false, reduceIte, and_self, Bool.false_eq_true, ho, hH2, hH4, enc_ones, hH5, hH6, ldC c0] <;> with_reducible rfl)))) | (with_reducible apply bind2_intro; (focus (first | with_reducible rfl | (simp only [walkR, get0, getS, Nat.zero_add, Nat.add_zero, Bool.not_true, Bool.not_false, decide_true, decide_false, reduceIte, and_self, Bool.false_eq_true, ho, hH2, hH4, enc_ones, hH5, hH6, ldC c0] <;> with_reducible rfl)))) | with_reducible apply cond_t | with_reducible apply cond_f))
  simp only [hH5, hH6]
  refine bind2_of (ref65 (n := n) (lim := lim) (L := L) (h.keep k06) (by omega)) ?_
  rintro _ H7 ⟨rfl, k7⟩
  have n7 := k7.next
  have hw : IntKind.u64.wrap (((lastP L).1 : Int) + 1) = (((lastP L).1 + 1 : Nat) : Int) := u64_succ hi
  have s1 : astore lim H7 1 (.ptr (some (H2.next, 0))) (.int .u64 (((lastP L).1 + 1 : Nat) : Int)) = some (H7.set H2.next (.cells (enc { e with idx := (lastP L).1 + 1 }))) :=
    astore_cell (k7.cells c1) (by omega) rfl rfl (by rw [enc_len]; omega) rfl
  generalize hH8 : H7.set H2.next (.cells (enc { e with idx := (lastP L).1 + 1 })) = H8 at s1
  have n8 : H8.next = H7.next := by rw [← hH8, Heap.next_set]
  have x1 : H8.cells H2.next = some (enc { e with idx := (lastP L).1 + 1 }) := by rw [← hH8]; exact cells_set_same (by omega)
  have x0 : H8.cells H.next = some (refC L w) := by rw [← hH8]; exact cells_set_other (k7.cells c0) (by omega)
  have x2 : H8.cells H4.next = some z1 := by rw [← hH8]; exact cells_set_other (k7.cells c2) (by omega)
  have x3 : H8.cells H5.next = some z0 := by rw [← hH8]; exact cells_set_other (k7.cells c3) (by omega)
  have k8 : Keeps2 H H8 := by rw [← hH8]; exact (k06.trans k7).setNew (by omega) _
  by_cases h1 : e.term < (lastP L).2
  · have hd : decide (((e.term : Nat) : Int) < ((lastP L).2 : Int)) = true := dT (by omega)
    have hE : addE L e = { e with idx := (lastP L).1 + 1, term := (lastP L).2 } := by unfold addE; rw [Nat.max_eq_right (by omega)]
    have s2 : astore lim H8 1 (.ptr (some (H2.next, 1))) (.int .u64 ((lastP L).2 : Int)) = some (H8.set H2.next (.cells (enc (addE L e)))) := by
      rw [hE]; exact astore_cell x1 (by omega) rfl rfl (by rw [enc_len]; omega) rfl
    generalize hH9 : H8.set H2.next (.cells (enc (addE L e))) = H9 at s2
    have n9 : H9.next = H8.next := by rw [← hH9, Heap.next_set]
    have k9 : Keeps2 H H9 := by rw [← hH9]; exact k8.setNew (by omega) _
    (repeat (first | (with_reducible apply bindP_intro; (focus (first | with_reducible rfl | (simp only [walkR, get0, getS, Nat.zero_add, Nat.add_zero, Bool.not_true, Bool.not_false, decide_true, decide_false, reduceIte, and_self, Bool.false_eq_true, hw, s1, aload_one x1, enc1, hd, s2] <;> with_reducible rfl)))) | (with_reducible apply bind2_intro; (focus (first | with_reducible rfl | (simp only [walkR, get0, getS, Nat.zero_add, Nat.add_zero, Bool.not_true, Bool.not_false, decide_true, decide_false, reduceIte, and_self, Bool.false_eq_true, hw, s1, aload_one x1, enc1, hd, s2] <;> with_reducible rfl)))) | with_reducible apply cond_t | with_reducible apply cond_f))
    refine ref61_tail (L := L) (w := w) (b0 := H.next) (b1 := H2.next) (b2 := H4.next) (b3 := H5.next) (e := addE L e) (by rw [← hH9]; exact cells_set_other x0 (by omega)) (by rw [← hH9]; exact cells_set_same (by omega)) (by rw [← hH9]; exact cells_set_other x2 (by omega)) (by rw [← hH9]; exact cells_set_other x3 (by omega)) (h.keep k9) hl (by omega) (by omega) (by omega) (by omega) (by omega) hs (fun w' H' bv o f g => ?_)
    exact ⟨w', bv, rfl, o, Fram.keeps k9 f (fun c hc e0 => by omega), fun c hc => by have := g c hc; omega⟩
  · have hd : decide (((e.term : Nat) : Int) < ((lastP L).2 : Int)) = false := dF (by omega)
    have hE : addE L e = { e with idx := (lastP L).1 + 1 } := by unfold addE; rw [Nat.max_eq_left (by omega)]
    (repeat (first | (with_reducible apply bindP_intro; (focus (first | with_reducible rfl | (simp only [walkR, get0, getS, Nat.zero_add, Nat.add_zero, Bool.not_true, Bool.not_false, decide_true, decide_false, reduceIte, and_self, Bool.false_eq_true, hw, s1, aload_one x1, enc1, hd] <;> with_reducible rfl)))) | (with_reducible apply bind2_intro; (focus (first | with_reducible rfl | (simp only [walkR, get0, getS, Nat.zero_add, Nat.add_zero, Bool.not_true, Bool.not_false, decide_true, decide_false, reduceIte, and_self, Bool.false_eq_true, hw, s1, aload_one x1, enc1, hd] <;> with_reducible rfl)))) | with_reducible apply cond_t | with_reducible apply cond_f))
    refine ref61_tail (L := L) (w := w) (b0 := H.next) (b1 := H2.next) (b2 := H4.next) (b3 := H5.next) (e := addE L e) x0 (by rw [hE]; exact x1) x2 x3 (h.keep k8) hl (by omega) (by omega) (by omega) (by omega) (by omega) hs (fun w' H' bv o f g => ?_)
    exact ⟨w', bv, rfl, o, Fram.keeps k8 f (fun c hc e0 => by omega), fun c hc => by have := g c hc; omega⟩

/-! ## Reset -/

theorem ref64_loop {R : Caller} {lim n : Nat} {K : AVal → Heap → Prop} {b4 b8 b9 i : Nat} {M : Lg} {HE : Heap} (he0 : Es HE w L.es) (hs : L.es.length ≤ 90000) (hl : lim ≤ HE.next) (h9 : HE.next ≤ b9) (d8 : b8 < b9) (d4 : b4 < b9)
    (hK : ∀ H' v bv, Own H' 13 v ((L.es.filter fun e => decide (i < e.idx)).map enc) bv → H'.cells b9 = some (refC M v) → H'.cells b8 = some z1 → Keeps2 HE H' → (∀ c, slBlk v = some c → b9 < c) → F64_j0 R lim n K (ptr b8) (ptr b9) H') :
    ∀ (m k : Nat) (H : Heap) (v : AVal) (bv : Nat), Keeps2 HE H → H.cells b4 = some (refC L w) → H.cells b8 = some z1 → H.cells b9 = some (refC M v) → Own H 13 v (((L.es.take k).filter fun e => decide (i < e.idx)).map enc) bv → (∀ c, slBlk v = some c → b9 < c) → L.es.length < m + k → k ≤ L.es.length →
      F64_l0 R lim n K m (.int .u64 (i : Int)) (ptr b4) (ptr b8) (ptr b9) (.int .i64 (k : Int)) H
  | 0, k, H, v, bv, _, _, _, _, _, _, hm, hk => by exfalso; omega
  | m + 1, k, H, v, bv, kE, c4, c8, c9, ho, hv, hm, hk => by
    show F64_s0 R lim n K (F64_l0 R lim n K m) _ _ _ _ _ H
    unfold F64_s0 F64_j1 F64_j2
    have he := he0.keep kE
    have b9lt := Heap.cells_lt c9
    by_cases h1 : k < L.es.length
    · have hd : decide ((k : Int) < (L.es.length : Int)) = true := dT (by omega)
      have hwr : IntKind.i64.wrap ((k : Int) + 1) = ((k + 1 : Nat) : Int) := i64_succ (by omega)
      have htk : L.es.take (k + 1) = L.es.take k ++ [L.es[k]] := by rw [List.take_add_one, List.getElem?_eq_getElem h1]; rfl
      have hfk : (L.es.take (k + 1)).filter (fun e => decide (i < e.idx)) = (L.es.take k).filter (fun e => decide (i < e.idx)) ++ (if i < L.es[k].idx then [L.es[k]] else []) := by
        rw [htk, List.filter_append]
        congr 1
        by_cases h : i < L.es[k].idx
        · rw [if_pos h, List.filter_cons, if_pos (by simpa using h)]; rfl
        · rw [if_neg h, List.filter_cons, if_neg (by simpa using h)]; rfl
      by_cases h2 : i < L.es[k].idx
      · have hd2 : decide ((i : Int) < ((L.es[k].idx : Nat) : Int)) = true := dT (by omega)
        rw [if_pos h2] at hfk
        have hlen : ((L.es.take k).filter fun e => decide (i < e.idx)).length ≤ k := by
          have := List.length_filter_le (fun e : Ent => decide (i < e.idx)) (L.es.take k)
          rw [List.length_take] at this; omega
        obtain ⟨v', H', bv', e1, o1, f1, g1⟩ := push1 (lim := lim) ho (fun c hc => by have := hv c hc; omega) (by omega) L.es[k]
        have n1 := f1.next
        have cc : ∀ {b cs}, b ≤ b9 → H.cells b = some cs → H'.cells b = some cs := fun hb hc => f1.cells hc (fun e0 => by have := hv _ e0; omega)
        have hv' : ∀ c, slBlk v' = some c → b9 < c := fun c hc => by have := g1 c hc; omega
        have s1 : astore lim H' 1 (.ptr (some (b9, 3))) v' = some (H'.set b9 (.cells (refC M v'))) := st3C (cc (by omega) c9) (by omega) o1.one rfl rfl rfl
        (repeat (first | (with_reducible apply bindP_intro; (focus (first | with_reducible rfl | (simp only [walkR, get0, getS, Nat.zero_add, Nat.add_zero, Bool.not_true, Bool.not_false, decide_true, decide_false, reduceIte, and_self, Bool.false_eq_true, aload_one c4, he.len, hd, he.addr h1, he.faddr h1, he.idx h1, he.idx' h1, hd2, aload_one c9, he.load h1, fill1, e1, s1, hwr] <;> with_reducible rfl)))) | (with_reducible apply bind2_intro; (focus (first | with_reducible rfl | (simp only [walkR, get0, getS, Nat.zero_add, Nat.add_zero, Bool.not_true, Bool.not_false, decide_true, decide_false, reduceIte, and_self, Bool.false_eq_true, aload_one c4, he.len, hd, he.addr h1, he.faddr h1, he.idx h1, he.idx' h1, hd2, aload_one c9, he.load h1, fill1, e1, s1, hwr] <;> with_reducible rfl)))) | with_reducible apply cond_t | with_reducible apply cond_f))
        have kE' : Keeps2 HE (H'.set b9 (.cells (refC M v'))) := (Fram.keeps kE f1 (fun c hc e0 => by have := hv c e0; omega)).setNew (by omega) _
        refine ref64_loop he0 hs hl h9 d8 d4 hK m (k + 1) _ v' bv' kE' (cells_set_other (cc (by omega) c4) (by omega)) (cells_set_other (cc (by omega) c8) (by omega)) (cells_set_same (by omega)) ?_ hv' (by omega) (by omega)
        rw [hfk]
        have f2 : Fram (fun c => c = b9) H' (H'.set b9 (.cells (refC M v'))) := Fram.set rfl
        rcases o1.2 with ⟨q1, q2⟩ | ⟨o', cs, q1, q2, q3, q4⟩ | ⟨q1, q2⟩
        · exact ⟨o1.1, .inl ⟨q1, q2⟩⟩
        · exact o1.frame f2 (fun e0 => by have := hv' bv' (by rw [q1]; rfl); omega)
        · exact o1.frame f2 (fun e0 => by have := hv' bv' (by rw [q1]; rfl); omega)
      · have hd2 : decide ((i : Int) < ((L.es[k].idx : Nat) : Int)) = false := dF (by omega)
        rw [if_neg h2, List.append_nil] at hfk
        (repeat (first | (with_reducible apply bindP_intro; (focus (first | with_reducible rfl | (simp only [walkR, get0, getS, Nat.zero_add, Nat.add_zero, Bool.not_true, Bool.not_false, decide_true, decide_false, reduceIte, and_self, Bool.false_eq_true, aload_one c4, he.len, hd, he.addr h1, he.faddr h1, he.idx h1, he.idx' h1, hd2, hwr] <;> with_reducible rfl)))) | (with_reducible apply bind2_intro; (focus (first | with_reducible rfl | (simp only [walkR, get0, getS, Nat.zero_add, Nat.add_zero, Bool.not_true, Bool.not_false, decide_true, decide_false, reduceIte, and_self, Bool.false_eq_true, aload_one c4, he.len, hd, he.addr h1, he.faddr h1, he.idx h1, he.idx' h1, hd2, hwr] <;> with_reducible rfl)))) | with_reducible apply cond_t | with_reducible apply cond_f))
        exact ref64_loop he0 hs hl h9 d8 d4 hK m (k + 1) H v bv kE c4 c8 c9 (by rw [hfk]; exact ho) hv (by omega) (by omega)
    · have hd : decide ((k : Int) < (L.es.length : Int)) = false := dF (by omega)
      (repeat (first | (with_reducible apply bindP_intro; (focus (first | with_reducible rfl | (simp only [walkR, get0, getS, Nat.zero_add, Nat.add_zero, Bool.not_true, Bool.not_false, decide_true, decide_false, reduceIte, and_self, Bool.false_eq_true, aload_one c4, he.len, hd] <;> with_reducible rfl)))) | (with_reducible apply bind2_intro; (focus (first | with_reducible rfl | (simp only [walkR, get0, getS, Nat.zero_add, Nat.add_zero, Bool.not_true, Bool.not_false, decide_true, decide_false, reduceIte, and_self, Bool.false_eq_true, aload_one c4, he.len, hd] <;> with_reducible rfl)))) | with_reducible apply cond_t | with_reducible apply cond_f))
      rw [List.take_of_length_le (by omega)] at ho
      exact hK H v bv ho c9 c8 kE hv

theorem filter_drop {L : Lg} (hf : L.Fits) {i : Nat} (hi : L.idx ≤ i) : L.es.filter (fun e => decide (i < e.idx)) = L.es.drop (i - L.idx) := by
  have : L.es = L.es.take (i - L.idx) ++ L.es.drop (i - L.idx) := (List.take_append_drop _ _).symm
  conv => lhs; rw [this]
  rw [List.filter_append]
  have h1 : (L.es.take (i - L.idx)).filter (fun e => decide (i < e.idx)) = [] := by
    rw [List.filter_eq_nil_iff]
    intro e he
    obtain ⟨k, hk, rfl⟩ := List.mem_iff_getElem.1 he
    have hk' : k < i - L.idx ∧ k < L.es.length := by rw [List.length_take] at hk; omega
    rw [List.getElem_take]
    have := hf.at' hk'.2
    simp; omega
  have h2 : (L.es.drop (i - L.idx)).filter (fun e => decide (i < e.idx)) = L.es.drop (i - L.idx) := by
    rw [List.filter_eq_self]
    intro e he
    obtain ⟨k, hk, rfl⟩ := List.mem_iff_getElem.1 he
    have hk' : i - L.idx + k < L.es.length := by rw [List.length_drop] at hk; omega
    rw [List.getElem_drop]
    have := hf.at' hk'
    simp; omega
  rw [h1, h2, List.nil_append]

theorem own_of_blk {H H' : Heap} {S : Nat → Prop} {sz bv : Nat} {v : AVal} {xs : List (List AVal)} (h : Own H sz v xs bv) (hf : Fram S H H') (hn : ∀ c, slBlk v = some c → ¬ S c) : Own H' sz v xs bv := by
  rcases h.2 with ⟨q1, q2⟩ | ⟨o', cs, q1, q2, q3, q4⟩ | ⟨q1, q2⟩
  · exact ⟨h.1, .inl ⟨q1, q2⟩⟩
  · exact h.frame hf (hn bv (by rw [q1]; rfl))
  · exact h.frame hf (hn bv (by rw [q1]; rfl))

theorem build_ref (i t m : Int) : buildO z1 [(0, 1, .int .u64 i), (1, 1, .int .u64 t), (2, 1, .int .u8 m)] = some (.agg [.int .u64 i, .int .u64 t, .int .u8 m, .sl none 0 (.ex 0)]) := rfl

/-- A log that is told: its entries a slice of its own. -/
def RefTold (H H' : Heap) (L' : Lg) (r : AVal) : Prop := ∃ w' b, r = ref L' w' ∧ Own H' 13 w' (L'.es.map enc) b ∧ Keeps2 H H' ∧ (∀ c, slBlk w' = some c → H.next ≤ c)

theorem ref64_end {R : Caller} {lim n : Nat} {K : AVal → Heap → Prop} {b8 b9 : Nat} {M : Lg} {v : AVal} {bv : Nat} (hv : v.one = true) (c8 : H.cells b8 = some z1) (c9 : H.cells b9 = some (refC M v)) (h8 : lim ≤ b8)
    (hK : K (ref M v) (H.set b8 (.cells (refC M v)))) : F64_j0 R lim n K (ptr b8) (ptr b9) H := by
  unfold F64_j0
  have s1 : astore lim H 4 (ptr b8) (ref M v) = some (H.set b8 (.cells (refC M v))) := stC c8 rfl h8 hv
  have l1 : aload (H.set b8 (.cells (refC M v))) (some 4) (ptr b8) = some (ref M v) := ldC (cells_set_same (Heap.cells_lt c8))
  (repeat (first | (with_reducible apply bindP_intro; (focus (first | with_reducible rfl | (simp only [walkR, get0, getS, Nat.zero_add, Nat.add_zero, Bool.not_true, Bool.not_false, decide_true, decide_false, reduceIte, and_self, Bool.false_eq_true, ldC c9, s1, l1] <;> with_reducible rfl)))) | (with_reducible apply bind2_intro; (focus (first | with_reducible rfl | (simp only [walkR, get0, getS, Nat.zero_add, Nat.add_zero, Bool.not_true, Bool.not_false, decide_true, decide_false, reduceIte, and_self, Bool.false_eq_true, ldC c9, s1, l1] <;> with_reducible rfl)))) | with_reducible apply cond_t | with_reducible apply cond_f))
  exact hK

theorem ref64 {n lim : Nat} (h : Es H w L.es) (hf : L.Fits) (hs : L.es.length ≤ 90000) (hl : lim ≤ H.next) (hn : L.es.length < n) {i t m : Nat} :
    ∃ r H', Ahs.runT ap (n + 2) lim (.fn 64) [ref L w, .int .u64 (i : Int), .int .u64 (t : Int), .int .u8 (m : Int)] H = some (r, H') ∧ RefTold H H' (resetP L i t m) r := by
  refine F64_run (n := n + 1) a64 ?_
  unfold F64
  have ho := ref_ones h
  generalize hH2 : H.push (.cells (refC L w)) = H2
  generalize hH3 : H2.push (.cells z1) = H3
  have k2 : Keeps2 H H2 := by rw [← hH2]; exact .push _ _
  have k3 : Keeps2 H2 H3 := by rw [← hH3]; exact .push _ _
  have n2 : H2.next = H.next + 1 := by rw [← hH2, Heap.next_push]
  have n3 : H3.next = H.next + 2 := by rw [← hH3, Heap.next_push, n2]
  have s1 : astore lim (H3.push (.cells z1)) 4 (ptr H3.next) (ref ⟨i, t, m, []⟩ (.sl none 0 (.ex 0))) = some (H3.push (.cells (refC ⟨i, t, m, []⟩ (.sl none 0 (.ex 0))))) := astore_new (by omega) rfl rfl rfl
  generalize hH4 : H3.push (.cells (refC ⟨i, t, m, []⟩ (.sl none 0 (.ex 0)))) = H4 at s1
  have k4 : Keeps2 H3 H4 := by rw [← hH4]; exact .push _ _
  have n4 : H4.next = H.next + 3 := by rw [← hH4, Heap.next_push, n3]
  have k04 := (k2.trans k3).trans k4
  have c4 : H4.cells H.next = some (refC L w) := (k3.trans k4).cells (by rw [← hH2]; exact cells_push_new _ _)
  have c8 : H4.cells H2.next = some z1 := k4.cells (by rw [← hH3]; exact cells_push_new _ _)
  have c9 : H4.cells H3.next = some (refC ⟨i, t, m, []⟩ (.sl none 0 (.ex 0))) := by rw [← hH4]; exact cells_push_new _ _
  (repeat (first | (with_reducible apply bindP_intro; (focus (first | with_reducible rfl | (simp only [walkR, get0, getS, Nat.zero_add, Nat.add_zero, Bool.not_true, Bool.not_false, decide_true, decide_false, reduceIte, and_self, Bool.false_eq_true, ho, hH2, hH3, build_ref, s1, ldC c4] <;> with_reducible rfl)))) | (with_reducible apply bind2_intro; (focus (first | with_reducible rfl | (simp only [walkR, get0, getS, Nat.zero_add, Nat.add_zero, Bool.not_true, Bool.not_false, decide_true, decide_false, reduceIte, and_self, Bool.false_eq_true, ho, hH2, hH3, build_ref, s1, ldC c4] <;> with_reducible rfl)))) | with_reducible apply cond_t | with_reducible apply cond_f))
  simp only [hH3]
  refine bind2_of (ref67 (n := n) (lim := lim) (L := L) (i := i) (h.keep k04) hf (by omega) (by omega)) ?_
  rintro _ H5 ⟨rfl, k5⟩
  have n5 := k5.next
  have k05 := k04.trans k5
  have none : termP L i ≠ some t → F64_j0 (Ahs.runT ap (n + 1)) lim (n + 1) (fun r H' => RefTold H H' (resetP L i t m) r) (ptr H2.next) (ptr H3.next) H5 := by
    intro hne
    refine ref64_end (bv := 0) rfl (k5.cells c8) (k5.cells c9) (by omega) ?_
    have : resetP L i t m = ⟨i, t, m, []⟩ := by unfold resetP; rw [if_neg hne]
    rw [this]
    exact ⟨_, 0, rfl, ⟨fun _ h => by simp at h, .inl ⟨rfl, rfl⟩⟩, k05.setNew (by omega) _, fun c hc => by simp [slBlk] at hc⟩
  cases ht : termP L i with
  | none =>
    (repeat (first | (with_reducible apply bindP_intro; (focus (first | with_reducible rfl | (simp only [walkR, get0, getS, Nat.zero_add, Nat.add_zero, Bool.not_true, Bool.not_false, decide_true, decide_false, reduceIte, and_self, Bool.false_eq_true, optT] <;> with_reducible rfl)))) | (with_reducible apply bind2_intro; (focus (first | with_reducible rfl | (simp only [walkR, get0, getS, Nat.zero_add, Nat.add_zero, Bool.not_true, Bool.not_false, decide_true, decide_false, reduceIte, and_self, Bool.false_eq_true, optT] <;> with_reducible rfl)))) | with_reducible apply cond_t | with_reducible apply cond_f))
    exact none (by rw [ht]; simp)
  | some t' =>
    by_cases htt : t' = t
    · subst htt
      have hq : ((t' : Int) == (t' : Int)) = true := by simp
      have hti := termP_some ht
      (repeat (first | (with_reducible apply bindP_intro; (focus (first | with_reducible rfl | (simp only [walkR, get0, getS, Nat.zero_add, Nat.add_zero, Bool.not_true, Bool.not_false, decide_true, decide_false, reduceIte, and_self, Bool.false_eq_true, optT, hq] <;> with_reducible rfl)))) | (with_reducible apply bind2_intro; (focus (first | with_reducible rfl | (simp only [walkR, get0, getS, Nat.zero_add, Nat.add_zero, Bool.not_true, Bool.not_false, decide_true, decide_false, reduceIte, and_self, Bool.false_eq_true, optT, hq] <;> with_reducible rfl)))) | with_reducible apply cond_t | with_reducible apply cond_f))
      refine ref64_loop (L := L) (w := w) (M := ⟨i, t', m, []⟩) h hs hl (by omega) (by omega) (by omega) (fun H' v bv o1 q9 q8 kE g1 => ?_) (n + 1) 0 H5 (.sl Option.none 0 (.ex 0)) 0 k05 (k5.cells c4) (k5.cells c8) (k5.cells c9) ⟨fun _ h => by simp at h, .inl ⟨rfl, by simp⟩⟩ (fun c hc => by simp [slBlk] at hc) (by omega) (by omega)
      refine ref64_end (bv := bv) o1.one.1 q8 q9 (by omega) ?_
      have hP : resetP L i t' m = ⟨i, t', m, L.es.filter fun e => decide (i < e.idx)⟩ := by unfold resetP; rw [if_pos ht, filter_drop hf hti.1]
      rw [hP]
      exact ⟨v, bv, rfl, own_of_blk o1 (Fram.set (S := fun c => c = H2.next) rfl) (fun c hc e0 => by have := g1 c hc; omega), kE.setNew (by omega) _, fun c hc => by have := g1 c hc; omega⟩
    · have hq : ((t' : Int) == (t : Int)) = false := by rw [Bool.eq_false_iff]; simp; omega
      (repeat (first | (with_reducible apply bindP_intro; (focus (first | with_reducible rfl | (simp only [walkR, get0, getS, Nat.zero_add, Nat.add_zero, Bool.not_true, Bool.not_false, decide_true, decide_false, reduceIte, and_self, Bool.false_eq_true, optT, hq] <;> with_reducible rfl)))) | (with_reducible apply bind2_intro; (focus (first | with_reducible rfl | (simp only [walkR, get0, getS, Nat.zero_add, Nat.add_zero, Bool.not_true, Bool.not_false, decide_true, decide_false, reduceIte, and_self, Bool.false_eq_true, optT, hq] <;> with_reducible rfl)))) | with_reducible apply cond_t | with_reducible apply cond_f))
      exact none (by rw [ht]; simpa using htt)

/-! ## Cut -/

theorem ref63 {n lim : Nat} (h : Es H w L.es) (hf : L.Fits) (hs : L.es.length ≤ 90000) (hl : lim ≤ H.next) (hn : L.es.length + 5 ≤ n) {i : Nat} :
    ∃ r H', Ahs.runT ap (n + 4) lim (.fn 63) [ref L w, .int .u64 (i : Int)] H = some (r, H') ∧ ∃ g, r = .tup [g, .int .i64 (cutCode L i : Int)] ∧ Keeps2 H H' ∧ (cutCode L i ≠ 0 → g = ref L w) ∧ (cutCode L i = 0 → RefTold H H' (cutP L i) g) := by
  refine F63_run (n := n + 3) a63 ?_
  unfold F63
  have ho := ref_ones h
  have hone := sl_one h
  generalize hH2 : H.push (.cells (refC L w)) = H2
  generalize hH3 : H2.push (.cells z1) = H3
  have k2 : Keeps2 H H2 := by rw [← hH2]; exact .push _ _
  have k3 : Keeps2 H2 H3 := by rw [← hH3]; exact .push _ _
  have n2 : H2.next = H.next + 1 := by rw [← hH2, Heap.next_push]
  have n3 : H3.next = H.next + 2 := by rw [← hH3, Heap.next_push, n2]
  have c1 : H3.cells H.next = some (refC L w) := k3.cells (by rw [← hH2]; exact cells_push_new _ _)
  have c2 : H3.cells H2.next = some z1 := by rw [← hH3]; exact cells_push_new _ _
  have k03 := k2.trans k3
  (repeat (first | (with_reducible apply bindP_intro; (focus (first | with_reducible rfl | (simp only [walkR, get0, getS, Nat.zero_add, Nat.add_zero, Bool.not_true, Bool.not_false, decide_true, decide_false, reduceIte, and_self, Bool.false_eq_true, ho, hH2, hH3, ldC c1] <;> with_reducible rfl)))) | (with_reducible apply bind2_intro; (focus (first | with_reducible rfl | (simp only [walkR, get0, getS, Nat.zero_add, Nat.add_zero, Bool.not_true, Bool.not_false, decide_true, decide_false, reduceIte, and_self, Bool.false_eq_true, ho, hH2, hH3, ldC c1] <;> with_reducible rfl)))) | with_reducible apply cond_t | with_reducible apply cond_f))
  simp only [hH3]
  refine bind2_of (ref65 (n := n + 2) (lim := lim) (L := L) (h.keep k03) (by omega)) ?_
  rintro _ H5 ⟨rfl, k5⟩
  have n5 := k5.next
  have x1 := k5.cells c1
  have x2 := k5.cells c2
  have k05 := k03.trans k5
  have s1 : astore lim H5 4 (ptr H2.next) (ref L w) = some (H5.set H2.next (.cells (refC L w))) := stC x2 rfl (by omega) hone.1
  have l1 : aload (H5.set H2.next (.cells (refC L w))) (some 4) (ptr H2.next) = some (ref L w) := ldC (cells_set_same (by omega))
  have kk : Keeps2 H (H5.set H2.next (.cells (refC L w))) := k05.setNew (by omega) _
  by_cases g1 : i < L.idx
  · have hd : decide ((i : Int) < (L.idx : Int)) = true := dT (by omega)
    have hc : cutCode L i = 10 := by unfold cutCode; rw [if_pos g1]
    (repeat (first | (with_reducible apply bindP_intro; (focus (first | with_reducible rfl | (simp only [walkR, get0, getS, Nat.zero_add, Nat.add_zero, Bool.not_true, Bool.not_false, decide_true, decide_false, reduceIte, and_self, Bool.false_eq_true, aload_one x1, hd, ldC x1, s1, l1] <;> with_reducible rfl)))) | (with_reducible apply bind2_intro; (focus (first | with_reducible rfl | (simp only [walkR, get0, getS, Nat.zero_add, Nat.add_zero, Bool.not_true, Bool.not_false, decide_true, decide_false, reduceIte, and_self, Bool.false_eq_true, aload_one x1, hd, ldC x1, s1, l1] <;> with_reducible rfl)))) | with_reducible apply cond_t | with_reducible apply cond_f))
    rw [hc]
    exact ⟨_, rfl, kk, fun _ => rfl, fun e => by simp at e⟩
  · have hd : decide ((i : Int) < (L.idx : Int)) = false := dF (by omega)
    by_cases g2 : (lastP L).1 < i
    · have hd2 : decide (((lastP L).1 : Int) < (i : Int)) = true := dT (by omega)
      have hc : cutCode L i = 4 := by unfold cutCode; rw [if_neg g1, if_pos g2]
      (repeat (first | (with_reducible apply bindP_intro; (focus (first | with_reducible rfl | (simp only [walkR, get0, getS, Nat.zero_add, Nat.add_zero, Bool.not_true, Bool.not_false, decide_true, decide_false, reduceIte, and_self, Bool.false_eq_true, aload_one x1, hd, hd2, ldC x1, s1, l1] <;> with_reducible rfl)))) | (with_reducible apply bind2_intro; (focus (first | with_reducible rfl | (simp only [walkR, get0, getS, Nat.zero_add, Nat.add_zero, Bool.not_true, Bool.not_false, decide_true, decide_false, reduceIte, and_self, Bool.false_eq_true, aload_one x1, hd, hd2, ldC x1, s1, l1] <;> with_reducible rfl)))) | with_reducible apply cond_t | with_reducible apply cond_f))
      rw [hc]
      exact ⟨_, rfl, kk, fun _ => rfl, fun e => by simp at e⟩
    · have hd2 : decide (((lastP L).1 : Int) < (i : Int)) = false := dF (by omega)
      have hc : cutCode L i = 0 := by unfold cutCode; rw [if_neg g1, if_neg g2]
      have hlast := hf.last
      have hq := termP_at (L := L) (q := i - L.idx) (by omega)
      rw [show L.idx + (i - L.idx) = i by omega] at hq
      generalize (endP L.idx L.term (L.es.take (i - L.idx))).2 = t at hq
      (repeat (first | (with_reducible apply bindP_intro; (focus (first | with_reducible rfl | (simp only [walkR, get0, getS, Nat.zero_add, Nat.add_zero, Bool.not_true, Bool.not_false, decide_true, decide_false, reduceIte, and_self, Bool.false_eq_true, aload_one x1, hd, hd2, ldC x1] <;> with_reducible rfl)))) | (with_reducible apply bind2_intro; (focus (first | with_reducible rfl | (simp only [walkR, get0, getS, Nat.zero_add, Nat.add_zero, Bool.not_true, Bool.not_false, decide_true, decide_false, reduceIte, and_self, Bool.false_eq_true, aload_one x1, hd, hd2, ldC x1] <;> with_reducible rfl)))) | with_reducible apply cond_t | with_reducible apply cond_f))
      refine bind2_of (ref67 (n := n + 2) (lim := lim) (L := L) (i := i) (h.keep k05) hf (by omega) (by omega)) ?_
      rintro _ H6 ⟨rfl, k6⟩
      have n6 := k6.next
      rw [hq]
      (repeat (first | (with_reducible apply bindP_intro; (focus (first | with_reducible rfl | (simp only [walkR, get0, getS, Nat.zero_add, Nat.add_zero, Bool.not_true, Bool.not_false, decide_true, decide_false, reduceIte, and_self, Bool.false_eq_true, optT, ldC (k6.cells x1)] <;> with_reducible rfl)))) | (with_reducible apply bind2_intro; (focus (first | with_reducible rfl | (simp only [walkR, get0, getS, Nat.zero_add, Nat.add_zero, Bool.not_true, Bool.not_false, decide_true, decide_false, reduceIte, and_self, Bool.false_eq_true, optT, ldC (k6.cells x1)] <;> with_reducible rfl)))) | with_reducible apply cond_t | with_reducible apply cond_f))
      refine bind2_of (ref66 (n := n + 2) (lim := lim) (L := L) (i := i) (h.keep (k05.trans k6)) (by omega) (by omega) (by omega)) ?_
      rintro _ H7 ⟨rfl, k7⟩
      have n7 := k7.next
      have k57 := k6.trans k7
      (repeat (first | (with_reducible apply bindP_intro; (focus (first | with_reducible rfl | (simp only [walkR, get0, getS, Nat.zero_add, Nat.add_zero, Bool.not_true, Bool.not_false, decide_true, decide_false, reduceIte, and_self, Bool.false_eq_true, ldC (k57.cells x1)] <;> with_reducible rfl)))) | (with_reducible apply bind2_intro; (focus (first | with_reducible rfl | (simp only [walkR, get0, getS, Nat.zero_add, Nat.add_zero, Bool.not_true, Bool.not_false, decide_true, decide_false, reduceIte, and_self, Bool.false_eq_true, ldC (k57.cells x1)] <;> with_reducible rfl)))) | with_reducible apply cond_t | with_reducible apply cond_f))
      refine bind2_of (ref64 (n := n + 1) (lim := lim) (L := L) (i := i) (t := t) (m := (upToP L i).1) (h.keep (k05.trans k57)) hf (by omega) (by omega) (by omega)) ?_
      rintro r H8 ⟨v, bv, rfl, o8, k8, f8⟩
      have n8 := k8.next
      have x8 := k8.cells (k57.cells x2)
      have s8 : astore lim H8 4 (ptr H2.next) (ref (resetP L i t (upToP L i).1) v) = some (H8.set H2.next (.cells (refC (resetP L i t (upToP L i).1) v))) := stC x8 rfl (by omega) o8.one.1
      have l8 : aload (H8.set H2.next (.cells (refC (resetP L i t (upToP L i).1) v))) (some 4) (ptr H2.next) = some (ref (resetP L i t (upToP L i).1) v) := ldC (cells_set_same (by omega))
      (repeat (first | (with_reducible apply bindP_intro; (focus (first | with_reducible rfl | (simp only [walkR, get0, getS, Nat.zero_add, Nat.add_zero, Bool.not_true, Bool.not_false, decide_true, decide_false, reduceIte, and_self, Bool.false_eq_true, s8, l8] <;> with_reducible rfl)))) | (with_reducible apply bind2_intro; (focus (first | with_reducible rfl | (simp only [walkR, get0, getS, Nat.zero_add, Nat.add_zero, Bool.not_true, Bool.not_false, decide_true, decide_false, reduceIte, and_self, Bool.false_eq_true, s8, l8] <;> with_reducible rfl)))) | with_reducible apply cond_t | with_reducible apply cond_f))
      have k08 : Keeps2 H (H8.set H2.next (.cells (refC (resetP L i t (upToP L i).1) v))) := ((k05.trans k57).trans k8).setNew (by omega) _
      have hP : cutP L i = resetP L i t (upToP L i).1 := by
        unfold cutP resetP
        rw [if_pos hc, if_pos hq, hq]; rfl
      rw [hc]
      refine ⟨_, rfl, k08, fun e => absurd rfl e, fun _ => ⟨v, bv, by rw [hP], ?_, k08, fun c hc => by have := f8 c hc; omega⟩⟩
      rw [hP]
      exact own_of_blk o8 (Fram.set (S := fun c => c = H2.next) rfl) (fun c hc e0 => by have := f8 c hc; omega)

end
end Go.Proofs.Ytpefhojmfcenfaa.logs

set_option maxRecDepth 100000
set_option linter.unusedVariables false
set_option linter.unusedSimpArgs false
namespace Go.Proofs.Ytpefhojmfcenfaa.logs
open Go.Ahs

/-! ## Plain facts -/

/-- Entries that join a log behind an index. -/
def JO (L : Lg) (i t : Nat) (es : List Ent) : Prop := fitP i t es = true ∧ (if i < L.idx then L.idx - i ≤ es.length ∧ (es[L.idx - i - 1]?).map (·.term) = some L.term else termP L i = some t)

theorem joins_JO {L : Lg} {i t : Nat} {es : List Ent} (h : joinsP L i t es = true) : JO L i t es := by
  unfold joinsP at h
  rw [Bool.and_eq_true] at h
  refine ⟨h.1, ?_⟩
  have h2 := h.2
  by_cases hi : i < L.idx
  · rw [if_pos hi] at h2 ⊢
    simpa using h2
  · rw [if_neg hi] at h2 ⊢
    simpa using h2

theorem filter_take {L : Lg} (hf : L.Fits) {j : Nat} (hj : L.idx < j) : L.es.filter (fun e => decide (e.idx < j)) = L.es.take (j - L.idx - 1) := by
  have : L.es = L.es.take (j - L.idx - 1) ++ L.es.drop (j - L.idx - 1) := (List.take_append_drop _ _).symm
  conv => lhs; rw [this]
  rw [List.filter_append]
  have h1 : (L.es.take (j - L.idx - 1)).filter (fun e => decide (e.idx < j)) = L.es.take (j - L.idx - 1) := by
    rw [List.filter_eq_self]
    intro e he
    obtain ⟨k, hk, rfl⟩ := List.mem_iff_getElem.1 he
    have hk' : k < j - L.idx - 1 ∧ k < L.es.length := by rw [List.length_take] at hk; omega
    rw [List.getElem_take]
    have := hf.at' hk'.2
    simp; omega
  have h2 : (L.es.drop (j - L.idx - 1)).filter (fun e => decide (e.idx < j)) = [] := by
    rw [List.filter_eq_nil_iff]
    intro e he
    obtain ⟨k, hk, rfl⟩ := List.mem_iff_getElem.1 he
    have hk' : j - L.idx - 1 + k < L.es.length := by rw [List.length_drop] at hk; omega
    rw [List.getElem_drop]
    have := hf.at' hk'
    simp; omega
  rw [h1, h2, List.append_nil]

theorem fit_cons {i t : Nat} {e : Ent} {es : List Ent} (h : fitP i t (e :: es) = true) : e.idx = i + 1 ∧ t ≤ e.term ∧ fitP e.idx e.term es = true := by
  simp only [fitP, Bool.and_eq_true, decide_eq_true_eq] at h
  exact h

theorem JO.skip {L : Lg} {i t : Nat} {e : Ent} {es : List Ent} (h : JO L i t (e :: es)) (hs : skipP L e = true) : JO L e.idx e.term es ∧ freshP L (e :: es) = freshP L es ∧ putP L (e :: es) = putP L es := by
  obtain ⟨h1, h2, h3⟩ := fit_cons h.1
  have hfr : freshP L (e :: es) = freshP L es := by unfold freshP; rw [List.dropWhile_cons, if_pos hs]
  refine ⟨⟨h3, ?_⟩, hfr, by unfold putP; rw [hfr]⟩
  have hj := h.2
  by_cases hi : i < L.idx
  · rw [if_pos hi] at hj
    by_cases hi2 : i + 1 < L.idx
    · rw [if_pos (by omega)]
      refine ⟨by have := hj.1; simp at this; omega, ?_⟩
      have e1 : L.idx - i - 1 = (L.idx - e.idx - 1) + 1 := by omega
      rw [e1, List.getElem?_cons_succ] at hj
      exact hj.2
    · have e1 : L.idx - i - 1 = 0 := by omega
      rw [e1, List.getElem?_cons_zero] at hj
      rw [if_neg (by omega)]
      have e2 : e.idx = L.idx := by omega
      unfold termP
      rw [if_neg (by omega), if_pos e2]
      exact hj.2.symm
  · rw [if_neg (by omega)]
    unfold skipP at hs
    simp only [Bool.or_eq_true, decide_eq_true_eq] at hs
    rcases hs with hs | hs
    · omega
    · exact hs

/-- A log cut ahead of an entry, with the entry. -/
def stepG (g : Lg) (e : Ent) : Lg := { g with es := g.es.filter (fun x => decide (x.idx < e.idx)) ++ [e] }

theorem JO.step {g : Lg} {i t : Nat} {e : Ent} {es : List Ent} (hf : g.Fits) (h : JO g i t (e :: es)) (hs : skipP g e = false) :
    (stepG g e).Fits ∧ JO (stepG g e) e.idx e.term es ∧ freshP g (e :: es) = e :: freshP (stepG g e) es ∧ putP g (e :: es) = putP (stepG g e) es ∧ g.idx ≤ i ∧ (stepG g e).es = g.es.take (i - g.idx) ++ [e] ∧ i - g.idx ≤ g.es.length := by
  obtain ⟨h1, h2, h3⟩ := fit_cons h.1
  unfold skipP at hs
  rw [Bool.or_eq_false_iff] at hs
  have hs1 := of_decide_eq_false hs.1
  have hi : g.idx ≤ i := by omega
  have ht := h.2
  rw [if_neg (by omega)] at ht
  have hti := termP_some ht
  have hq : i - g.idx ≤ g.es.length := by omega
  have hft : g.es.filter (fun x => decide (x.idx < e.idx)) = g.es.take (i - g.idx) := by
    rw [filter_take hf (by omega)]
    have : e.idx - g.idx - 1 = i - g.idx := by omega
    rw [this]
  have hes : (stepG g e).es = g.es.take (i - g.idx) ++ [e] := by unfold stepG; rw [hft]
  have htl : (g.es.take (i - g.idx)).length = i - g.idx := by rw [List.length_take]; omega
  have hel : (stepG g e).es.length = i - g.idx + 1 := by rw [hes, List.length_append, htl]; rfl
  have hidx : (stepG g e).idx = g.idx := rfl
  have hend1 := fitP_end (fitP_take hf (i - g.idx))
  rw [htl] at hend1
  have hend2 := termP_at (L := g) (q := i - g.idx) hq
  rw [show g.idx + (i - g.idx) = i by omega, ht] at hend2
  simp at hend2
  have hF : (stepG g e).Fits := by
    unfold Lg.Fits
    rw [hes]
    show fitP g.idx g.term _ = true
    rw [fitP_append, fitP_take hf, Bool.true_and, hend1.1, ← hend2]
    simp only [fitP, Bool.and_true]
    rw [dT (show e.idx = g.idx + (i - g.idx) + 1 by omega), dT h2]; rfl
  have hT : termP (stepG g e) e.idx = some e.term := by
    have := termP_at (L := stepG g e) (q := i - g.idx + 1) (by omega)
    rw [hidx, show g.idx + (i - g.idx + 1) = e.idx by omega] at this
    rw [this, List.take_of_length_le (by omega), hes, endP_append]
    rfl
  have hfr : freshP (stepG g e) es = es := by
    cases es with
    | nil => rfl
    | cons e2 r =>
      obtain ⟨p1, p2, p3⟩ := fit_cons h3
      have hsk : skipP (stepG g e) e2 = false := by
        unfold skipP
        rw [dF (by rw [hidx]; omega), Bool.false_or]
        apply dF
        unfold termP
        rw [if_neg (by rw [hidx, hel]; omega), if_neg (by rw [hidx]; omega)]
        simp
      unfold freshP
      rw [List.dropWhile_cons, if_neg (by rw [hsk]; simp)]
  have hfr0 : freshP g (e :: es) = e :: es := by
    unfold freshP
    rw [List.dropWhile_cons, if_neg (by unfold skipP; rw [hs.1, hs.2]; simp)]
  refine ⟨hF, ⟨h3, by rw [if_neg (by rw [hidx]; omega)]; exact hT⟩, by rw [hfr0, hfr], ?_, hi, hes, hq⟩
  unfold putP
  rw [hfr0, hfr]
  have he1 : e.idx - g.idx - 1 = i - g.idx := by omega
  cases es with
  | nil =>
    show ({ g with es := g.es.take (e.idx - g.idx - 1) ++ [e] } : Lg) = stepG g e
    rw [he1, ← hes]
    rfl
  | cons e2 r =>
    obtain ⟨p1, p2, p3⟩ := fit_cons h3
    show ({ g with es := g.es.take (e.idx - g.idx - 1) ++ (e :: e2 :: r) } : Lg) = { (stepG g e) with es := (stepG g e).es.take (e2.idx - (stepG g e).idx - 1) ++ (e2 :: r) }
    have e3 : (stepG g e).es.take (e2.idx - (stepG g e).idx - 1) = g.es.take (i - g.idx) ++ [e] := by
      rw [List.take_of_length_le (by rw [hidx, hel]; omega), hes]
    rw [e3, he1]
    show ({ g with es := _ } : Lg) = { g with es := _ }
    simp

/-- How a log stands behind what joined. -/
structure PutOK (g : Lg) (i : Nat) (es : List Ent) (P : Lg) : Prop where
  fits : P.Fits
  idx : P.idx = g.idx
  term : P.term = g.term
  mem : P.mem = g.mem
  len : P.es.length ≤ g.es.length + es.length
  sum : P.idx + P.es.length ≤ max (g.idx + g.es.length) (i + es.length)
  of' : ∀ x ∈ P.es, x ∈ g.es ∨ x ∈ es

theorem put_ok : ∀ {es : List Ent} {g : Lg} {i t : Nat}, g.Fits → JO g i t es → PutOK g i es (putP g es)
  | [], g, i, t, hf, h => ⟨hf, rfl, rfl, rfl, by show g.es.length ≤ _; omega, by show g.idx + g.es.length ≤ _; omega, fun x hx => .inl hx⟩
  | e :: es, g, i, t, hf, h => by
    obtain ⟨h1, h2, h3⟩ := fit_cons h.1
    cases hs : skipP g e with
    | true =>
      obtain ⟨j, _, hp⟩ := h.skip hs
      rw [hp]
      have := put_ok hf j
      refine ⟨this.fits, this.idx, this.term, this.mem, by have := this.len; simp; omega, by have := this.sum; simp; omega, fun x hx => ?_⟩
      rcases this.of' x hx with h | h
      · exact .inl h
      · exact .inr (by simp [h])
    | false =>
      obtain ⟨f', j, _, hp, hi, hes, hq⟩ := h.step hf hs
      rw [hp]
      have := put_ok f' j
      have hl : (stepG g e).es.length = i - g.idx + 1 := by rw [hes, List.length_append, List.length_take]; simp; omega
      have hx : (stepG g e).idx = g.idx := rfl
      refine ⟨this.fits, this.idx, this.term, this.mem, by have := this.len; simp; omega, by have := this.sum; rw [hl, hx] at this; simp; omega, fun x hx => ?_⟩
      rcases this.of' x hx with h | h
      · rw [hes] at h
        rcases List.mem_append.1 h with h | h
        · exact .inl (List.mem_of_mem_take h)
        · simp at h; exact .inr (by simp [h])
      · exact .inr (by simp [h])

theorem found_eq {L : Lg} {i t : Nat} {es : List Ent} (hf : fitP i t es = true) (hi : i < L.idx) : (es.any fun e => decide (e.idx = L.idx) && decide (e.term = L.term)) = (decide (L.idx - i ≤ es.length) && decide ((es[L.idx - i - 1]?).map (·.term) = some L.term)) := by
  rw [Bool.eq_iff_iff, List.any_eq_true]
  constructor
  · rintro ⟨e, he, h⟩
    rw [Bool.and_eq_true] at h
    have h1 := of_decide_eq_true h.1
    have h2 := of_decide_eq_true h.2
    obtain ⟨k, hk, rfl⟩ := List.mem_iff_getElem.1 he
    have h3 := (fitP_idx hf k _ (List.getElem?_eq_getElem hk)).1
    have h4 : L.idx - i - 1 = k := by omega
    rw [h4, List.getElem?_eq_getElem hk, dT (by omega), Bool.true_and]
    simp [h2]
  · intro h
    rw [Bool.and_eq_true] at h
    have h1 := of_decide_eq_true h.1
    have h2 := of_decide_eq_true h.2
    have hk : L.idx - i - 1 < es.length := by omega
    rw [List.getElem?_eq_getElem hk] at h2
    simp only [Option.map_some, Option.some.injEq] at h2
    have h3 := (fitP_idx hf _ _ (List.getElem?_eq_getElem hk)).1
    exact ⟨_, List.getElem_mem hk, by rw [dT (by omega), dT h2]; rfl⟩

/-! ## The walk -/

section
variable {H : Heap} {w : AVal} {L : Lg}

theorem put_filter {R : Caller} {lim n : Nat} {K : AVal → Heap → Prop} {rec2 : AVal → AVal → AVal → AVal → AVal → AVal → Heap → Prop} {b4 k : Nat} {t8 t16 t17 wg : AVal} {g : Lg} {es : List Ent} {Hs : Heap} (c4 : Hs.cells b4 = some (refC g wg)) (hg : Es Hs wg g.es) (he : Es Hs w es) (hk : k < es.length) (hs : g.es.length ≤ 90000) (hl : lim ≤ Hs.next)
    (hK : ∀ H' v bv, Keeps2 Hs H' → Own H' 13 v ((g.es.filter fun x => decide (x.idx < es[k].idx)).map enc) bv → (∀ c, slBlk v = some c → Hs.next ≤ c) → F62_j2 R lim n K rec2 w (ptr b4) t8 t16 t17 (.int .i64 (k : Int)) v H') :
    ∀ (m j : Nat) (H : Heap) (v : AVal) (bv : Nat), Keeps2 Hs H → Own H 13 v (((g.es.take j).filter fun x => decide (x.idx < es[k].idx)).map enc) bv → (∀ c, slBlk v = some c → Hs.next ≤ c) → g.es.length < m + j → j ≤ g.es.length →
      F62_l4 R lim n K rec2 m w (ptr b4) t8 t16 t17 (.int .i64 (k : Int)) v (.int .i64 (j : Int)) H
  | 0, j, H, v, bv, _, _, _, hm, hj => by exfalso; omega
  | m + 1, j, H, v, bv, kE, ho, hv, hm, hj => by
    show F62_s4 R lim n K rec2 (F62_l4 R lim n K rec2 m) _ _ _ _ _ _ _ _ H
    unfold F62_s4 F62_j3
    have x4 := kE.cells c4
    have xg := hg.keep kE
    have xe := he.keep kE
    have ne := kE.next
    by_cases h1 : j < g.es.length
    · have hd : decide ((j : Int) < (g.es.length : Int)) = true := dT (by omega)
      have hwr : IntKind.i64.wrap ((j : Int) + 1) = ((j + 1 : Nat) : Int) := i64_succ (by omega)
      have htk : g.es.take (j + 1) = g.es.take j ++ [g.es[j]] := by rw [List.take_add_one, List.getElem?_eq_getElem h1]; rfl
      have hfk : (g.es.take (j + 1)).filter (fun x => decide (x.idx < es[k].idx)) = (g.es.take j).filter (fun x => decide (x.idx < es[k].idx)) ++ (if g.es[j].idx < es[k].idx then [g.es[j]] else []) := by
        rw [htk, List.filter_append]
        congr 1
        by_cases h : g.es[j].idx < es[k].idx
        · rw [if_pos h, List.filter_cons, if_pos (by simpa using h)]; rfl
        · rw [if_neg h, List.filter_cons, if_neg (by simpa using h)]; rfl
      by_cases h2 : g.es[j].idx < es[k].idx
      · have hd2 : decide (((g.es[j].idx : Nat) : Int) < ((es[k].idx : Nat) : Int)) = true := dT (by omega)
        rw [if_pos h2] at hfk
        have hlen : ((g.es.take j).filter fun x => decide (x.idx < es[k].idx)).length ≤ j := by
          have := List.length_filter_le (fun x : Ent => decide (x.idx < es[k].idx)) (g.es.take j)
          rw [List.length_take] at this; omega
        obtain ⟨v', H', bv', e1, o1, f1, g1⟩ := push1 (lim := lim) ho (fun c hc => by have := hv c hc; omega) (by omega) g.es[j]
        (repeat (first | (with_reducible apply bindP_intro; (focus (first | with_reducible rfl | (simp only [walkR, get0, getS, Nat.zero_add, Nat.add_zero, Bool.not_true, Bool.not_false, decide_true, decide_false, reduceIte, and_self, Bool.false_eq_true, aload_one x4, xg.len, hd, xg.addr h1, xg.faddr h1, xg.idx h1, xg.idx' h1, xe.addr hk, xe.faddr hk, xe.idx hk, xe.idx' hk, hd2, xg.load h1, fill1, e1, hwr] <;> with_reducible rfl)))) | (with_reducible apply bind2_intro; (focus (first | with_reducible rfl | (simp only [walkR, get0, getS, Nat.zero_add, Nat.add_zero, Bool.not_true, Bool.not_false, decide_true, decide_false, reduceIte, and_self, Bool.false_eq_true, aload_one x4, xg.len, hd, xg.addr h1, xg.faddr h1, xg.idx h1, xg.idx' h1, xe.addr hk, xe.faddr hk, xe.idx hk, xe.idx' hk, hd2, xg.load h1, fill1, e1, hwr] <;> with_reducible rfl)))) | with_reducible apply cond_t | with_reducible apply cond_f))
        refine put_filter c4 hg he hk hs hl hK m (j + 1) H' v' bv' (Fram.keeps kE f1 (fun c hc e0 => by have := hv c e0; omega)) (by rw [hfk]; exact o1) (fun c hc => by have := g1 c hc; omega) (by omega) (by omega)
      · have hd2 : decide (((g.es[j].idx : Nat) : Int) < ((es[k].idx : Nat) : Int)) = false := dF (by omega)
        rw [if_neg h2, List.append_nil] at hfk
        (repeat (first | (with_reducible apply bindP_intro; (focus (first | with_reducible rfl | (simp only [walkR, get0, getS, Nat.zero_add, Nat.add_zero, Bool.not_true, Bool.not_false, decide_true, decide_false, reduceIte, and_self, Bool.false_eq_true, aload_one x4, xg.len, hd, xg.addr h1, xg.faddr h1, xg.idx h1, xg.idx' h1, xe.addr hk, xe.faddr hk, xe.idx hk, xe.idx' hk, hd2, hwr] <;> with_reducible rfl)))) | (with_reducible apply bind2_intro; (focus (first | with_reducible rfl | (simp only [walkR, get0, getS, Nat.zero_add, Nat.add_zero, Bool.not_true, Bool.not_false, decide_true, decide_false, reduceIte, and_self, Bool.false_eq_true, aload_one x4, xg.len, hd, xg.addr h1, xg.faddr h1, xg.idx h1, xg.idx' h1, xe.addr hk, xe.faddr hk, xe.idx hk, xe.idx' hk, hd2, hwr] <;> with_reducible rfl)))) | with_reducible apply cond_t | with_reducible apply cond_f))
        exact put_filter c4 hg he hk hs hl hK m (j + 1) H v bv kE (by rw [hfk]; exact ho) hv (by omega) (by omega)
    · have hd : decide ((j : Int) < (g.es.length : Int)) = false := dF (by omega)
      (repeat (first | (with_reducible apply bindP_intro; (focus (first | with_reducible rfl | (simp only [walkR, get0, getS, Nat.zero_add, Nat.add_zero, Bool.not_true, Bool.not_false, decide_true, decide_false, reduceIte, and_self, Bool.false_eq_true, aload_one x4, xg.len, hd] <;> with_reducible rfl)))) | (with_reducible apply bind2_intro; (focus (first | with_reducible rfl | (simp only [walkR, get0, getS, Nat.zero_add, Nat.add_zero, Bool.not_true, Bool.not_false, decide_true, decide_false, reduceIte, and_self, Bool.false_eq_true, aload_one x4, xg.len, hd] <;> with_reducible rfl)))) | with_reducible apply cond_t | with_reducible apply cond_f))
      rw [List.take_of_length_le (by omega)] at ho
      exact hK H v bv kE ho hv

/-- A slice of entries that was known, or is one's own. -/
def Held (HE H : Heap) (b : Nat) (w0 : AVal) (es0 : List Ent) (w : AVal) (es : List Ent) : Prop := (w = w0 ∧ es = es0) ∨ ∃ bv, Own H 13 w (es.map enc) bv ∧ ∀ c, slBlk w = some c → b < c

theorem Held.es {HE H : Heap} {b : Nat} {w0 : AVal} {es0 : List Ent} {w : AVal} {es : List Ent} (h : Held HE H b w0 es0 w es) (h0 : Es HE w0 es0) (hk : Keeps2 HE H) : Es H w es := by
  rcases h with ⟨rfl, rfl⟩ | ⟨bv, o, _⟩
  · exact h0.keep hk
  · exact o.sl

theorem put_rounds {n lim : Nat} {K : AVal → Heap → Prop} {b4 b8 mt : Nat} {w0 we : AVal} {es0 es : List Ent} {HE : Heap} {P : Lg} {F : List Ent} (h0 : Es HE w0 es0) (he0 : Es HE we es) (hl : lim ≤ HE.next) (h4 : HE.next ≤ b4) (d4 : b4 < b8) (hes : es.length ≤ 1000) (hn : 90000 ≤ n)
    (hK : ∀ H' wg f bf, Keeps2 HE H' → Es H' wg P.es → (wg = w0 ∨ ∀ c, slBlk wg = some c → b8 < c) → Own H' 13 f (F.map enc) bf → (∀ c, slBlk f = some c → b8 < c) → K (.tup [ref P wg, .bool true, .int .u64 (mt : Int), f]) H') :
    ∀ (m k : Nat) (H : Heap) (g : Lg) (wg f : AVal) (fr : List Ent) (bf i t : Nat), Keeps2 HE H → H.cells b4 = some (refC g wg) → H.cells b8 = some z1 → Held HE H b8 w0 es0 wg g.es → Own H 13 f (fr.map enc) bf → (∀ c, slBlk f = some c → b8 < c ∧ (wg = w0 ∨ slBlk wg ≠ some c)) → g.Fits → JO g i t (es.drop k) → P = putP g (es.drop k) → F = fr ++ freshP g (es.drop k) → g.es.length + es.length ≤ 80000 + k → fr.length ≤ k → es.length < m + k → k ≤ es.length →
      F62_l2 (Ahs.runT ap (n + 1)) lim (n + 1) K m we (ptr b4) (ptr b8) (.int .u64 (mt : Int)) f (.int .i64 (k : Int)) H
  | 0, k, H, g, wg, f, fr, bf, i, t, _, _, _, _, _, _, _, _, _, _, _, _, hm, hk => by exfalso; omega
  | m + 1, k, H, g, wg, f, fr, bf, i, t, kE, c4, c8, hw, ho, hf, hg, hj, hP, hF, hs, hfl, hm, hk => by
    show F62_s2 _ _ _ _ (F62_l2 _ _ _ _ m) _ _ _ _ _ _ H
    unfold F62_s2 F62_j1
    have xg := hw.es h0 kE
    have xe := he0.keep kE
    have ne := kE.next
    have b8lt := Heap.cells_lt c8
    by_cases h1 : k < es.length
    · have hd : decide ((k : Int) < (es.length : Int)) = true := dT (by omega)
      have hwr : IntKind.i64.wrap ((k : Int) + 1) = ((k + 1 : Nat) : Int) := i64_succ (by omega)
      rw [List.drop_eq_getElem_cons h1] at hj hP hF
      have next : ∀ H1, Keeps2 H H1 → skipP g es[k] = true → F62_l2 (Ahs.runT ap (n + 1)) lim (n + 1) K m we (ptr b4) (ptr b8) (.int .u64 (mt : Int)) f (.int .i64 ((k + 1 : Nat) : Int)) H1 := by
        intro H1 k1 hsk
        obtain ⟨j', q1, q2⟩ := hj.skip hsk
        refine put_rounds h0 he0 hl h4 d4 hes hn hK m (k + 1) H1 g wg f fr bf _ _ (kE.trans k1) (k1.cells c4) (k1.cells c8) ?_ (own_of_blk ho (Fram.of (S := fun _ => False) k1) (fun _ _ h => h)) hf hg j' (by rw [hP, q2]) (by rw [hF, q1]) (by omega) (by omega) (by omega) (by omega)
        rcases hw with hw | ⟨bv, o, p⟩
        · exact .inl hw
        · exact .inr ⟨bv, own_of_blk o (Fram.of (S := fun _ => False) k1) (fun _ _ h => h), p⟩
      by_cases g1 : es[k].idx ≤ g.idx
      · have hd2 : decide (((es[k].idx : Nat) : Int) ≤ (g.idx : Int)) = true := dT (by omega)
        (repeat (first | (with_reducible apply bindP_intro; (focus (first | with_reducible rfl | (simp only [walkR, get0, getS, Nat.zero_add, Nat.add_zero, Bool.not_true, Bool.not_false, decide_true, decide_false, reduceIte, and_self, Bool.false_eq_true, xe.len, hd, xe.addr h1, xe.faddr h1, xe.idx h1, xe.idx' h1, aload_one c4, hd2, hwr] <;> with_reducible rfl)))) | (with_reducible apply bind2_intro; (focus (first | with_reducible rfl | (simp only [walkR, get0, getS, Nat.zero_add, Nat.add_zero, Bool.not_true, Bool.not_false, decide_true, decide_false, reduceIte, and_self, Bool.false_eq_true, xe.len, hd, xe.addr h1, xe.faddr h1, xe.idx h1, xe.idx' h1, aload_one c4, hd2, hwr] <;> with_reducible rfl)))) | with_reducible apply cond_t | with_reducible apply cond_f))
        exact next H (.refl _) (by unfold skipP; rw [dT g1]; rfl)
      · have hd2 : decide (((es[k].idx : Nat) : Int) ≤ (g.idx : Int)) = false := dF (by omega)
        (repeat (first | (with_reducible apply bindP_intro; (focus (first | with_reducible rfl | (simp only [walkR, get0, getS, Nat.zero_add, Nat.add_zero, Bool.not_true, Bool.not_false, decide_true, decide_false, reduceIte, and_self, Bool.false_eq_true, xe.len, hd, xe.addr h1, xe.faddr h1, xe.idx h1, xe.idx' h1, aload_one c4, hd2, ldC c4] <;> with_reducible rfl)))) | (with_reducible apply bind2_intro; (focus (first | with_reducible rfl | (simp only [walkR, get0, getS, Nat.zero_add, Nat.add_zero, Bool.not_true, Bool.not_false, decide_true, decide_false, reduceIte, and_self, Bool.false_eq_true, xe.len, hd, xe.addr h1, xe.faddr h1, xe.idx h1, xe.idx' h1, aload_one c4, hd2, ldC c4] <;> with_reducible rfl)))) | with_reducible apply cond_t | with_reducible apply cond_f))
        refine bind2_of (ref67 (n := n) (lim := lim) (i := es[k].idx) xg hg (by omega) (by omega)) ?_
        rintro _ H1 ⟨rfl, k1⟩
        have xe1 := xe.keep k1
        have n1 := k1.next
        have fresh : skipP g es[k] = false → F62_l4 (Ahs.runT ap (n + 1)) lim (n + 1) K (F62_l2 (Ahs.runT ap (n + 1)) lim (n + 1) K m) (n + 1) we (ptr b4) (ptr b8) (.int .u64 (mt : Int)) f (.int .i64 (k : Int)) (.sl none 0 (.ex 0)) (.int .i64 0) H1 := by
          intro hsk
          obtain ⟨F', J', q1, q2, q3, q4, q5⟩ := hj.step hg hsk
          have hlg : (stepG g es[k]).es.length ≤ g.es.length + 1 := by rw [q4, List.length_append, List.length_take]; simp; omega
          have c41 := k1.cells c4
          have c81 := k1.cells c8
          have o1 : Own H1 13 f (fr.map enc) bf := own_of_blk ho (Fram.of (S := fun _ => False) k1) (fun _ _ h => h)
          refine put_filter (Hs := H1) c41 (xg.keep k1) xe1 h1 (by omega) (by omega) (fun H2 v bv k2 o2 f2 => ?_) (n + 1) 0 H1 (.sl none 0 (.ex 0)) 0 (.refl _) ⟨fun _ h => by simp at h, .inl ⟨rfl, by simp⟩⟩ (fun c hc => by simp [slBlk] at hc) (by omega) (by omega)
          unfold F62_j2 F62_j1
          have n2 := k2.next
          have k12 := k1.trans k2
          have xe2 := xe1.keep k2
          have hfl2 : (g.es.filter fun x => decide (x.idx < es[k].idx)).length ≤ g.es.length := List.length_filter_le _ _
          obtain ⟨v3, H3, bv3, e3, o3, f3, g3⟩ := push1 (lim := lim) o2 (fun c hc => by have := f2 c hc; omega) (by omega) es[k]
          have n3 := f3.next
          have k13 : Keeps2 H1 H3 := Fram.keeps k2 f3 (fun c hc e0 => by have := f2 c e0; omega)
          have g3' : ∀ c, slBlk v3 = some c → H2.next ≤ c := g3
          have o3' : Own H3 13 v3 ((stepG g es[k]).es.map enc) bv3 := o3
          have s3 : astore lim H3 1 (.ptr (some (b4, 3))) v3 = some (H3.set b4 (.cells (refC (stepG g es[k]) v3))) := st3C (k13.cells c41) (by omega) o3.one rfl rfl rfl
          generalize hH4 : H3.set b4 (.cells (refC (stepG g es[k]) v3)) = H4 at s3
          have n4 : H4.next = H3.next := by rw [← hH4, Heap.next_set]
          have kE4 : Keeps2 HE H4 := by rw [← hH4]; exact ((kE.trans k1).trans k13).setNew (by omega) _
          have f34 : Fram (fun c => c = b4) H3 H4 := by rw [← hH4]; exact Fram.set rfl
          have o4 : Own H4 13 v3 ((stepG g es[k]).es.map enc) bv3 := own_of_blk o3' f34 (fun c hc e0 => by have := g3' c hc; omega)
          have of4 : Own H4 13 f (fr.map enc) bf := own_of_blk (own_of_blk o1 (Fram.of (S := fun _ => False) k13) (fun _ _ h => h)) f34 (fun c hc e0 => by have := (hf c hc).1; omega)
          have c44 : H4.cells b4 = some (refC (stepG g es[k]) v3) := by rw [← hH4]; exact cells_set_same (by omega)
          have c84 : H4.cells b8 = some z1 := by rw [← hH4]; exact cells_set_other (k13.cells c81) (by omega)
          have xe4 := he0.keep kE4
          have ltf := own_lt o1
          obtain ⟨v5, H5, bv5, e5, o5, f5, g5⟩ := push1 (lim := lim) of4 (fun c hc => by have := (hf c hc).1; omega) (by omega) es[k]
          have n5 := f5.next
          have kE5 : Keeps2 HE H5 := Fram.keeps kE4 f5 (fun c hc e0 => by have := (hf c e0).1; omega)
          (repeat (first | (with_reducible apply bindP_intro; (focus (first | with_reducible rfl | (simp only [walkR, get0, getS, Nat.zero_add, Nat.add_zero, Bool.not_true, Bool.not_false, decide_true, decide_false, reduceIte, and_self, Bool.false_eq_true, xe2.addr h1, xe2.load h1, fill1, e3, s3, xe4.addr h1, xe4.load h1, e5, hwr] <;> with_reducible rfl)))) | (with_reducible apply bind2_intro; (focus (first | with_reducible rfl | (simp only [walkR, get0, getS, Nat.zero_add, Nat.add_zero, Bool.not_true, Bool.not_false, decide_true, decide_false, reduceIte, and_self, Bool.false_eq_true, xe2.addr h1, xe2.load h1, fill1, e3, s3, xe4.addr h1, xe4.load h1, e5, hwr] <;> with_reducible rfl)))) | with_reducible apply cond_t | with_reducible apply cond_f))
          refine put_rounds h0 he0 hl h4 d4 hes hn hK m (k + 1) H5 (stepG g es[k]) v3 v5 (fr ++ [es[k]]) bv5 _ _ kE5 (f5.cells c44 (fun e0 => by have := (hf _ e0).1; omega)) (f5.cells c84 (fun e0 => by have := (hf _ e0).1; omega)) (.inr ⟨bv3, own_of_blk o4 f5 (fun c hc e0 => by have := ltf c e0; have := g3' c hc; omega), fun c hc => by have := g3' c hc; omega⟩) o5 (fun c hc => ⟨by have := g5 c hc; omega, .inr (fun e0 => by have := g5 c hc; have := own_lt o4 c e0; omega)⟩) F' J' (by rw [hP, q2]) (by rw [hF, q1]; simp) (by omega) (by simp; omega) (by omega) (by omega)
        cases ht : termP g es[k].idx with
        | none =>
          (repeat (first | (with_reducible apply bindP_intro; (focus (first | with_reducible rfl | (simp only [walkR, get0, getS, Nat.zero_add, Nat.add_zero, Bool.not_true, Bool.not_false, decide_true, decide_false, reduceIte, and_self, Bool.false_eq_true, optT, xe1.addr h1, xe1.faddr h1] <;> with_reducible rfl)))) | (with_reducible apply bind2_intro; (focus (first | with_reducible rfl | (simp only [walkR, get0, getS, Nat.zero_add, Nat.add_zero, Bool.not_true, Bool.not_false, decide_true, decide_false, reduceIte, and_self, Bool.false_eq_true, optT, xe1.addr h1, xe1.faddr h1] <;> with_reducible rfl)))) | with_reducible apply cond_t | with_reducible apply cond_f))
          exact fresh (by unfold skipP; rw [dF g1, ht]; rfl)
        | some tt =>
          by_cases htt : tt = es[k].term
          · have hq : ((tt : Int) == ((es[k].term : Nat) : Int)) = true := by rw [htt]; simp
            (repeat (first | (with_reducible apply bindP_intro; (focus (first | with_reducible rfl | (simp only [walkR, get0, getS, Nat.zero_add, Nat.add_zero, Bool.not_true, Bool.not_false, decide_true, decide_false, reduceIte, and_self, Bool.false_eq_true, optT, xe1.addr h1, xe1.faddr h1, xe1.term h1, hq, hwr] <;> with_reducible rfl)))) | (with_reducible apply bind2_intro; (focus (first | with_reducible rfl | (simp only [walkR, get0, getS, Nat.zero_add, Nat.add_zero, Bool.not_true, Bool.not_false, decide_true, decide_false, reduceIte, and_self, Bool.false_eq_true, optT, xe1.addr h1, xe1.faddr h1, xe1.term h1, hq, hwr] <;> with_reducible rfl)))) | with_reducible apply cond_t | with_reducible apply cond_f))
            exact next H1 k1 (by unfold skipP; rw [ht, htt]; simp)
          · have hq : ((tt : Int) == ((es[k].term : Nat) : Int)) = false := by rw [Bool.eq_false_iff]; simp; omega
            (repeat (first | (with_reducible apply bindP_intro; (focus (first | with_reducible rfl | (simp only [walkR, get0, getS, Nat.zero_add, Nat.add_zero, Bool.not_true, Bool.not_false, decide_true, decide_false, reduceIte, and_self, Bool.false_eq_true, optT, xe1.addr h1, xe1.faddr h1, xe1.term h1, hq] <;> with_reducible rfl)))) | (with_reducible apply bind2_intro; (focus (first | with_reducible rfl | (simp only [walkR, get0, getS, Nat.zero_add, Nat.add_zero, Bool.not_true, Bool.not_false, decide_true, decide_false, reduceIte, and_self, Bool.false_eq_true, optT, xe1.addr h1, xe1.faddr h1, xe1.term h1, hq] <;> with_reducible rfl)))) | with_reducible apply cond_t | with_reducible apply cond_f))
            exact fresh (by unfold skipP; rw [dF g1, ht, dF (by simpa using htt)]; rfl)
    · have hd : decide ((k : Int) < (es.length : Int)) = false := dF (by omega)
      rw [List.drop_eq_nil_of_le (by omega)] at hP hF
      have hP' : P = g := hP
      have hF' : F = fr := by rw [hF]; simp [freshP]
      (repeat (first | (with_reducible apply bindP_intro; (focus (first | with_reducible rfl | (simp only [walkR, get0, getS, Nat.zero_add, Nat.add_zero, Bool.not_true, Bool.not_false, decide_true, decide_false, reduceIte, and_self, Bool.false_eq_true, xe.len, hd] <;> with_reducible rfl)))) | (with_reducible apply bind2_intro; (focus (first | with_reducible rfl | (simp only [walkR, get0, getS, Nat.zero_add, Nat.add_zero, Bool.not_true, Bool.not_false, decide_true, decide_false, reduceIte, and_self, Bool.false_eq_true, xe.len, hd] <;> with_reducible rfl)))) | with_reducible apply cond_t | with_reducible apply cond_f))
      unfold F62_j0
      have hone : wg.one = true := (sl_one xg).1
      have s1 : astore lim H 4 (ptr b8) (ref g wg) = some (H.set b8 (.cells (refC g wg))) := stC c8 rfl (by omega) hone
      have l1 : aload (H.set b8 (.cells (refC g wg))) (some 4) (ptr b8) = some (ref g wg) := ldC (cells_set_same (by omega))
      (repeat (first | (with_reducible apply bindP_intro; (focus (first | with_reducible rfl | (simp only [walkR, get0, getS, Nat.zero_add, Nat.add_zero, Bool.not_true, Bool.not_false, decide_true, decide_false, reduceIte, and_self, Bool.false_eq_true, ldC c4, s1, l1] <;> with_reducible rfl)))) | (with_reducible apply bind2_intro; (focus (first | with_reducible rfl | (simp only [walkR, get0, getS, Nat.zero_add, Nat.add_zero, Bool.not_true, Bool.not_false, decide_true, decide_false, reduceIte, and_self, Bool.false_eq_true, ldC c4, s1, l1] <;> with_reducible rfl)))) | with_reducible apply cond_t | with_reducible apply cond_f))
      rw [← hP']
      have kE' : Keeps2 HE (H.set b8 (.cells (refC P wg))) := kE.setNew (by omega) _
      have hw' : Held HE (H.set b8 (.cells (refC P wg))) b8 w0 es0 wg g.es := by
        rcases hw with hw | ⟨bv, o, p⟩
        · exact .inl hw
        · exact .inr ⟨bv, own_of_blk o (Fram.set (S := fun c => c = b8) rfl) (fun c hc e0 => by have := p c hc; omega), p⟩
      refine hK _ wg f bf kE' (by have := hw'.es h0 kE'; rw [hP']; rw [hP'] at this; exact this) ?_ ?_ (fun c hc => (hf c hc).1)
      · rcases hw with ⟨hw, _⟩ | ⟨bv, o, p⟩
        · exact .inl hw
        · exact .inr p
      · rw [hF']
        exact own_of_blk ho (Fram.set (S := fun c => c = b8) rfl) (fun c hc e0 => by have := (hf c hc).1; omega)

theorem found_loop {R : Caller} {lim n : Nat} {K : AVal → Heap → Prop} {b4 : Nat} {t1 t8 we w : AVal} {es : List Ent} (c4 : H.cells b4 = some (refC L w)) (he : Es H we es) (hs : es.length ≤ 1000) {res : Bool} (hK : F62_j6 R lim n K t1 we (ptr b4) t8 (.bool res) H) :
    ∀ (m k : Nat) (fd : Bool), res = (fd || (es.drop k).any fun e => decide (e.idx = L.idx) && decide (e.term = L.term)) → es.length < m + k → k ≤ es.length →
      F62_l0 R lim n K m t1 we (ptr b4) t8 (.bool fd) (.int .i64 (k : Int)) H
  | 0, k, fd, _, hm, hk => by exfalso; omega
  | m + 1, k, fd, hr, hm, hk => by
    show F62_s0 R lim n K (F62_l0 R lim n K m) _ _ _ _ _ _ H
    unfold F62_s0
    by_cases h1 : k < es.length
    · have hd : decide ((k : Int) < (es.length : Int)) = true := dT (by omega)
      have hwr : IntKind.i64.wrap ((k : Int) + 1) = ((k + 1 : Nat) : Int) := i64_succ (by omega)
      rw [List.drop_eq_getElem_cons h1, List.any_cons] at hr
      cases fd with
      | true =>
        (repeat (first | (with_reducible apply bindP_intro; (focus (first | with_reducible rfl | (simp only [walkR, get0, getS, Nat.zero_add, Nat.add_zero, Bool.not_true, Bool.not_false, decide_true, decide_false, reduceIte, and_self, Bool.false_eq_true, he.len, hd, hwr] <;> with_reducible rfl)))) | (with_reducible apply bind2_intro; (focus (first | with_reducible rfl | (simp only [walkR, get0, getS, Nat.zero_add, Nat.add_zero, Bool.not_true, Bool.not_false, decide_true, decide_false, reduceIte, and_self, Bool.false_eq_true, he.len, hd, hwr] <;> with_reducible rfl)))) | with_reducible apply cond_t | with_reducible apply cond_f))
        exact found_loop c4 he hs hK m (k + 1) true (by rw [hr]; simp) (by omega) (by omega)
      | false =>
        rw [Bool.false_or] at hr
        by_cases h2 : es[k].idx = L.idx
        · have hq : (((es[k].idx : Nat) : Int) == (L.idx : Int)) = true := by rw [h2]; simp
          by_cases h3 : es[k].term = L.term
          · have hq2 : (((es[k].term : Nat) : Int) == (L.term : Int)) = true := by rw [h3]; simp
            (repeat (first | (with_reducible apply bindP_intro; (focus (first | with_reducible rfl | (simp only [walkR, get0, getS, Nat.zero_add, Nat.add_zero, Bool.not_true, Bool.not_false, decide_true, decide_false, reduceIte, and_self, Bool.false_eq_true, he.len, hd, he.addr h1, he.faddr h1, he.idx h1, he.idx' h1, aload_one c4, hq, he.term h1, hq2, hwr] <;> with_reducible rfl)))) | (with_reducible apply bind2_intro; (focus (first | with_reducible rfl | (simp only [walkR, get0, getS, Nat.zero_add, Nat.add_zero, Bool.not_true, Bool.not_false, decide_true, decide_false, reduceIte, and_self, Bool.false_eq_true, he.len, hd, he.addr h1, he.faddr h1, he.idx h1, he.idx' h1, aload_one c4, hq, he.term h1, hq2, hwr] <;> with_reducible rfl)))) | with_reducible apply cond_t | with_reducible apply cond_f))
            refine found_loop c4 he hs hK m (k + 1) true ?_ (by omega) (by omega)
            rw [hr, dT h2, dT h3]; simp
          · have hq2 : (((es[k].term : Nat) : Int) == (L.term : Int)) = false := by rw [Bool.eq_false_iff]; simp; omega
            (repeat (first | (with_reducible apply bindP_intro; (focus (first | with_reducible rfl | (simp only [walkR, get0, getS, Nat.zero_add, Nat.add_zero, Bool.not_true, Bool.not_false, decide_true, decide_false, reduceIte, and_self, Bool.false_eq_true, he.len, hd, he.addr h1, he.faddr h1, he.idx h1, he.idx' h1, aload_one c4, hq, he.term h1, hq2, hwr] <;> with_reducible rfl)))) | (with_reducible apply bind2_intro; (focus (first | with_reducible rfl | (simp only [walkR, get0, getS, Nat.zero_add, Nat.add_zero, Bool.not_true, Bool.not_false, decide_true, decide_false, reduceIte, and_self, Bool.false_eq_true, he.len, hd, he.addr h1, he.faddr h1, he.idx h1, he.idx' h1, aload_one c4, hq, he.term h1, hq2, hwr] <;> with_reducible rfl)))) | with_reducible apply cond_t | with_reducible apply cond_f))
            refine found_loop c4 he hs hK m (k + 1) false ?_ (by omega) (by omega)
            rw [hr, dF h3]; simp
        · have hq : (((es[k].idx : Nat) : Int) == (L.idx : Int)) = false := by rw [Bool.eq_false_iff]; simp; omega
          (repeat (first | (with_reducible apply bindP_intro; (focus (first | with_reducible rfl | (simp only [walkR, get0, getS, Nat.zero_add, Nat.add_zero, Bool.not_true, Bool.not_false, decide_true, decide_false, reduceIte, and_self, Bool.false_eq_true, he.len, hd, he.addr h1, he.faddr h1, he.idx h1, he.idx' h1, aload_one c4, hq, hwr] <;> with_reducible rfl)))) | (with_reducible apply bind2_intro; (focus (first | with_reducible rfl | (simp only [walkR, get0, getS, Nat.zero_add, Nat.add_zero, Bool.not_true, Bool.not_false, decide_true, decide_false, reduceIte, and_self, Bool.false_eq_true, he.len, hd, he.addr h1, he.faddr h1, he.idx h1, he.idx' h1, aload_one c4, hq, hwr] <;> with_reducible rfl)))) | with_reducible apply cond_t | with_reducible apply cond_f))
          refine found_loop c4 he hs hK m (k + 1) false ?_ (by omega) (by omega)
          rw [hr, dF h2]; simp
    · have hd : decide ((k : Int) < (es.length : Int)) = false := dF (by omega)
      rw [List.drop_eq_nil_of_le (by omega)] at hr
      simp at hr
      subst hr
      (repeat (first | (with_reducible apply bindP_intro; (focus (first | with_reducible rfl | (simp only [walkR, get0, getS, Nat.zero_add, Nat.add_zero, Bool.not_true, Bool.not_false, decide_true, decide_false, reduceIte, and_self, Bool.false_eq_true, he.len, hd] <;> with_reducible rfl)))) | (with_reducible apply bind2_intro; (focus (first | with_reducible rfl | (simp only [walkR, get0, getS, Nat.zero_add, Nat.add_zero, Bool.not_true, Bool.not_false, decide_true, decide_false, reduceIte, and_self, Bool.false_eq_true, he.len, hd] <;> with_reducible rfl)))) | with_reducible apply cond_t | with_reducible apply cond_f))
      exact hK

theorem ref62 {n lim : Nat} (h : Es H w L.es) (hf : L.Fits) (hs : L.es.length ≤ 70000) (hl : lim ≤ H.next) {we : AVal} {es : List Ent} (he : Es H we es) (hok : ∀ e ∈ es, e.ok) (hes : es.length ≤ 1000) (hn : 90000 ≤ n) {i t : Nat} (hi : i < 9223372036854775808) :
    ∃ r H', Ahs.runT ap (n + 2) lim (.fn 62) [ref L w, .int .u64 (i : Int), .int .u64 (t : Int), we] H = some (r, H') ∧ Keeps2 H H' ∧
      (if joinsP L i t es = true then ∃ w' f bf, r = .tup [ref (putP L es) w', .bool true, .int .u64 ((max (i + es.length) L.idx : Nat) : Int), f] ∧ Es H' w' (putP L es).es ∧ (w' = w ∨ ∀ c, slBlk w' = some c → H.next ≤ c) ∧ Own H' 13 f ((freshP L es).map enc) bf ∧ (∀ c, slBlk f = some c → H.next ≤ c)
        else r = .tup [ref L w, .bool false, .int .u64 0, .sl none 0 (.ex 0)]) := by
  refine F62_run (n := n + 1) a62 ?_
  unfold F62
  have ho := ref_ones h
  have hone := sl_one h
  generalize hH2 : H.push (.cells (refC L w)) = H2
  generalize hH3 : H2.push (.cells z1) = H3
  have k2 : Keeps2 H H2 := by rw [← hH2]; exact .push _ _
  have k3 : Keeps2 H2 H3 := by rw [← hH3]; exact .push _ _
  have n2 : H2.next = H.next + 1 := by rw [← hH2, Heap.next_push]
  have n3 : H3.next = H.next + 2 := by rw [← hH3, Heap.next_push, n2]
  have c4 : H3.cells H.next = some (refC L w) := k3.cells (by rw [← hH2]; exact cells_push_new _ _)
  have c8 : H3.cells H2.next = some z1 := by rw [← hH3]; exact cells_push_new _ _
  have k03 := k2.trans k3
  have he3 := he.keep k03
  have x29 : Ahs.runT ap (n + 1) lim (.fn 29) [.int .u64 (i : Int), .int .u64 (t : Int), we] H3 = _ := ref29 (n := n) (lim := lim) (t := t) he3 hok (by omega) (by omega) (show i < 18446744073709551616 by omega)
  have s1 : astore lim H3 4 (ptr H2.next) (ref L w) = some (H3.set H2.next (.cells (refC L w))) := stC c8 rfl (by omega) hone.1
  have l1 : aload (H3.set H2.next (.cells (refC L w))) (some 4) (ptr H2.next) = some (ref L w) := ldC (cells_set_same (by omega))
  have kk : Keeps2 H (H3.set H2.next (.cells (refC L w))) := k03.setNew (by omega) _
  cases hfit : fitP i t es with
  | false =>
    (repeat (first | (with_reducible apply bindP_intro; (focus (first | with_reducible rfl | (simp only [walkR, get0, getS, Nat.zero_add, Nat.add_zero, Bool.not_true, Bool.not_false, decide_true, decide_false, reduceIte, and_self, Bool.false_eq_true, ho, hH2, hH3, x29, hfit, ldC c4, s1, l1] <;> with_reducible rfl)))) | (with_reducible apply bind2_intro; (focus (first | with_reducible rfl | (simp only [walkR, get0, getS, Nat.zero_add, Nat.add_zero, Bool.not_true, Bool.not_false, decide_true, decide_false, reduceIte, and_self, Bool.false_eq_true, ho, hH2, hH3, x29, hfit, ldC c4, s1, l1] <;> with_reducible rfl)))) | with_reducible apply cond_t | with_reducible apply cond_f))
    have : joinsP L i t es = false := by unfold joinsP; rw [hfit]; rfl
    refine ⟨kk, ?_⟩
    rw [this]
    simp
  | true =>
    -- taken
    have fin : ∀ H5, Keeps2 H3 H5 → joinsP L i t es = true → F62_j5 (Ahs.runT ap (n + 1)) lim (n + 1) (fun r H' => Keeps2 H H' ∧ (if joinsP L i t es = true then ∃ w' f bf, r = .tup [ref (putP L es) w', .bool true, .int .u64 ((max (i + es.length) L.idx : Nat) : Int), f] ∧ Es H' w' (putP L es).es ∧ (w' = w ∨ ∀ c, slBlk w' = some c → H.next ≤ c) ∧ Own H' 13 f ((freshP L es).map enc) bf ∧ (∀ c, slBlk f = some c → H.next ≤ c)
        else r = .tup [ref L w, .bool false, .int .u64 0, .sl none 0 (.ex 0)])) (.int .u64 (i : Int)) we (ptr H.next) (ptr H2.next) H5 := by
      intro H5 k5 hj
      unfold F62_j5
      have n5 := k5.next
      have k05 := k03.trans k5
      have he5 := he.keep k05
      have hwl : IntKind.u64.wrap (es.length : Int) = (es.length : Int) := wrap_u64 (by omega) (by omega)
      have hw : IntKind.u64.wrap ((i : Int) + (es.length : Int)) = ((i + es.length : Nat) : Int) := by rw [wrap_u64 (by omega) (by omega)]; omega
      have go : F62_j4 (Ahs.runT ap (n + 1)) lim (n + 1) (fun r H' => Keeps2 H H' ∧ (if joinsP L i t es = true then ∃ w' f bf, r = .tup [ref (putP L es) w', .bool true, .int .u64 ((max (i + es.length) L.idx : Nat) : Int), f] ∧ Es H' w' (putP L es).es ∧ (w' = w ∨ ∀ c, slBlk w' = some c → H.next ≤ c) ∧ Own H' 13 f ((freshP L es).map enc) bf ∧ (∀ c, slBlk f = some c → H.next ≤ c)
        else r = .tup [ref L w, .bool false, .int .u64 0, .sl none 0 (.ex 0)])) we (ptr H.next) (ptr H2.next) (.int .u64 ((max (i + es.length) L.idx : Nat) : Int)) H5 := by
        unfold F62_j4
        refine put_rounds (n := n) (HE := H) (P := putP L es) (F := freshP L es) (es0 := L.es) (w0 := w) h he hl (Nat.le_refl _) (by omega) hes (by omega) (fun H' wg f bf q1 q2 q3 q4 q5 => ?_) (n + 1) 0 H5 L w (.sl none 0 (.ex 0)) [] 0 i t k05 (k5.cells c4) (k5.cells c8) (.inl ⟨rfl, rfl⟩) ⟨fun _ h => by simp at h, .inl ⟨rfl, rfl⟩⟩ (fun c hc => by simp [slBlk] at hc) hf (by rw [List.drop_zero]; exact joins_JO hj) (by rw [List.drop_zero]) (by rw [List.drop_zero]; rfl) (by omega) (by simp) (by omega) (by omega)
        refine ⟨q1, ?_⟩
        rw [hj]
        simp only [if_true]
        refine ⟨wg, f, bf, rfl, q2, ?_, q4, fun c hc => by have := q5 c hc; omega⟩
        rcases q3 with q3 | q3
        · exact .inl q3
        · exact .inr (fun c hc => by have := q3 c hc; omega)
      by_cases hm : L.idx < i + es.length
      · have hd : decide ((L.idx : Int) < ((i + es.length : Nat) : Int)) = true := dT (by omega)
        (repeat (first | (with_reducible apply bindP_intro; (focus (first | with_reducible rfl | (simp only [walkR, get0, getS, Nat.zero_add, Nat.add_zero, Bool.not_true, Bool.not_false, decide_true, decide_false, reduceIte, and_self, Bool.false_eq_true, aload_one (k5.cells c4), he5.len, hwl, hw, hd] <;> with_reducible rfl)))) | (with_reducible apply bind2_intro; (focus (first | with_reducible rfl | (simp only [walkR, get0, getS, Nat.zero_add, Nat.add_zero, Bool.not_true, Bool.not_false, decide_true, decide_false, reduceIte, and_self, Bool.false_eq_true, aload_one (k5.cells c4), he5.len, hwl, hw, hd] <;> with_reducible rfl)))) | with_reducible apply cond_t | with_reducible apply cond_f))
        rw [Nat.max_eq_left (by omega)] at go
        rw [Nat.max_eq_left (by omega)]
        exact go
      · have hd : decide ((L.idx : Int) < ((i + es.length : Nat) : Int)) = false := dF (by omega)
        (repeat (first | (with_reducible apply bindP_intro; (focus (first | with_reducible rfl | (simp only [walkR, get0, getS, Nat.zero_add, Nat.add_zero, Bool.not_true, Bool.not_false, decide_true, decide_false, reduceIte, and_self, Bool.false_eq_true, aload_one (k5.cells c4), he5.len, hwl, hw, hd] <;> with_reducible rfl)))) | (with_reducible apply bind2_intro; (focus (first | with_reducible rfl | (simp only [walkR, get0, getS, Nat.zero_add, Nat.add_zero, Bool.not_true, Bool.not_false, decide_true, decide_false, reduceIte, and_self, Bool.false_eq_true, aload_one (k5.cells c4), he5.len, hwl, hw, hd] <;> with_reducible rfl)))) | with_reducible apply cond_t | with_reducible apply cond_f))
        rw [Nat.max_eq_right (by omega)] at go
        rw [Nat.max_eq_right (by omega)]
        exact go
    by_cases h1 : L.idx ≤ i
    · have hd : decide ((L.idx : Int) ≤ (i : Int)) = true := dT (by omega)
      (repeat (first | (with_reducible apply bindP_intro; (focus (first | with_reducible rfl | (simp only [walkR, get0, getS, Nat.zero_add, Nat.add_zero, Bool.not_true, Bool.not_false, decide_true, decide_false, reduceIte, and_self, Bool.false_eq_true, ho, hH2, hH3, x29, hfit, aload_one c4, hd, ldC c4] <;> with_reducible rfl)))) | (with_reducible apply bind2_intro; (focus (first | with_reducible rfl | (simp only [walkR, get0, getS, Nat.zero_add, Nat.add_zero, Bool.not_true, Bool.not_false, decide_true, decide_false, reduceIte, and_self, Bool.false_eq_true, ho, hH2, hH3, x29, hfit, aload_one c4, hd, ldC c4] <;> with_reducible rfl)))) | with_reducible apply cond_t | with_reducible apply cond_f))
      refine bind2_of (ref67 (n := n) (lim := lim) (L := L) (i := i) (h.keep k03) hf (by omega) (by omega)) ?_
      rintro _ H5 ⟨rfl, k5⟩
      have n5 := k5.next
      have hjP : joinsP L i t es = decide (termP L i = some t) := by unfold joinsP; rw [hfit, if_neg (by omega), Bool.true_and]
      have s5 : astore lim H5 4 (ptr H2.next) (ref L w) = some (H5.set H2.next (.cells (refC L w))) := stC (k5.cells c8) rfl (by omega) hone.1
      have l5 : aload (H5.set H2.next (.cells (refC L w))) (some 4) (ptr H2.next) = some (ref L w) := ldC (cells_set_same (by omega))
      have kk5 : Keeps2 H (H5.set H2.next (.cells (refC L w))) := (k03.trans k5).setNew (by omega) _
      have x4 := k5.cells c4
      cases ht : termP L i with
      | none =>
        (repeat (first | (with_reducible apply bindP_intro; (focus (first | with_reducible rfl | (simp only [walkR, get0, getS, Nat.zero_add, Nat.add_zero, Bool.not_true, Bool.not_false, decide_true, decide_false, reduceIte, and_self, Bool.false_eq_true, optT, ldC x4, s5, l5] <;> with_reducible rfl)))) | (with_reducible apply bind2_intro; (focus (first | with_reducible rfl | (simp only [walkR, get0, getS, Nat.zero_add, Nat.add_zero, Bool.not_true, Bool.not_false, decide_true, decide_false, reduceIte, and_self, Bool.false_eq_true, optT, ldC x4, s5, l5] <;> with_reducible rfl)))) | with_reducible apply cond_t | with_reducible apply cond_f))
        refine ⟨kk5, ?_⟩
        rw [hjP, ht]
        simp
      | some t' =>
        by_cases htt : t' = t
        · subst htt
          have hq : ((t' : Int) != (t' : Int)) = false := by simp
          (repeat (first | (with_reducible apply bindP_intro; (focus (first | with_reducible rfl | (simp only [walkR, get0, getS, Nat.zero_add, Nat.add_zero, Bool.not_true, Bool.not_false, decide_true, decide_false, reduceIte, and_self, Bool.false_eq_true, optT, hq] <;> with_reducible rfl)))) | (with_reducible apply bind2_intro; (focus (first | with_reducible rfl | (simp only [walkR, get0, getS, Nat.zero_add, Nat.add_zero, Bool.not_true, Bool.not_false, decide_true, decide_false, reduceIte, and_self, Bool.false_eq_true, optT, hq] <;> with_reducible rfl)))) | with_reducible apply cond_t | with_reducible apply cond_f))
          exact fin H5 k5 (by rw [hjP, ht]; simp)
        · have hq : ((t' : Int) != (t : Int)) = true := by simp; omega
          (repeat (first | (with_reducible apply bindP_intro; (focus (first | with_reducible rfl | (simp only [walkR, get0, getS, Nat.zero_add, Nat.add_zero, Bool.not_true, Bool.not_false, decide_true, decide_false, reduceIte, and_self, Bool.false_eq_true, optT, hq, ldC x4, s5, l5] <;> with_reducible rfl)))) | (with_reducible apply bind2_intro; (focus (first | with_reducible rfl | (simp only [walkR, get0, getS, Nat.zero_add, Nat.add_zero, Bool.not_true, Bool.not_false, decide_true, decide_false, reduceIte, and_self, Bool.false_eq_true, optT, hq, ldC x4, s5, l5] <;> with_reducible rfl)))) | with_reducible apply cond_t | with_reducible apply cond_f))
          refine ⟨kk5, ?_⟩
          rw [hjP, ht, dF (by simpa using htt)]
          simp
    · have hd : decide ((L.idx : Int) ≤ (i : Int)) = false := dF (by omega)
      (repeat (first | (with_reducible apply bindP_intro; (focus (first | with_reducible rfl | (simp only [walkR, get0, getS, Nat.zero_add, Nat.add_zero, Bool.not_true, Bool.not_false, decide_true, decide_false, reduceIte, and_self, Bool.false_eq_true, ho, hH2, hH3, x29, hfit, aload_one c4, hd] <;> with_reducible rfl)))) | (with_reducible apply bind2_intro; (focus (first | with_reducible rfl | (simp only [walkR, get0, getS, Nat.zero_add, Nat.add_zero, Bool.not_true, Bool.not_false, decide_true, decide_false, reduceIte, and_self, Bool.false_eq_true, ho, hH2, hH3, x29, hfit, aload_one c4, hd] <;> with_reducible rfl)))) | with_reducible apply cond_t | with_reducible apply cond_f))
      have hjP : joinsP L i t es = (es.any fun e => decide (e.idx = L.idx) && decide (e.term = L.term)) := by
        rw [found_eq hfit (by omega)]
        unfold joinsP; rw [hfit, if_pos (by omega), Bool.true_and]
      refine found_loop (res := joinsP L i t es) c4 he3 (by omega) ?_ (n + 1) 0 false (by rw [List.drop_zero, hjP]; rfl) (by omega) (by omega)
      unfold F62_j6
      cases hj : joinsP L i t es with
      | false =>
        (repeat (first | (with_reducible apply bindP_intro; (focus (first | with_reducible rfl | (simp only [walkR, get0, getS, Nat.zero_add, Nat.add_zero, Bool.not_true, Bool.not_false, decide_true, decide_false, reduceIte, and_self, Bool.false_eq_true, ldC c4, s1, l1] <;> with_reducible rfl)))) | (with_reducible apply bind2_intro; (focus (first | with_reducible rfl | (simp only [walkR, get0, getS, Nat.zero_add, Nat.add_zero, Bool.not_true, Bool.not_false, decide_true, decide_false, reduceIte, and_self, Bool.false_eq_true, ldC c4, s1, l1] <;> with_reducible rfl)))) | with_reducible apply cond_t | with_reducible apply cond_f))
        exact ⟨kk, by simp⟩
      | true =>
        (repeat (first | (with_reducible apply bindP_intro; (focus (first | with_reducible rfl | (simp only [walkR, get0, getS, Nat.zero_add, Nat.add_zero, Bool.not_true, Bool.not_false, decide_true, decide_false, reduceIte, and_self, Bool.false_eq_true] <;> with_reducible rfl)))) | (with_reducible apply bind2_intro; (focus (first | with_reducible rfl | (simp only [walkR, get0, getS, Nat.zero_add, Nat.add_zero, Bool.not_true, Bool.not_false, decide_true, decide_false, reduceIte, and_self, Bool.false_eq_true] <;> with_reducible rfl)))) | with_reducible apply cond_t | with_reducible apply cond_f))
        have := fin H3 (.refl _) hj
        rw [hj] at this
        exact this

end
end Go.Proofs.Ytpefhojmfcenfaa.logs
