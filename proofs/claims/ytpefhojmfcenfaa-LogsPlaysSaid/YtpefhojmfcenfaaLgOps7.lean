/- Members, Reset, Cut. -/
import Derived.Test.YtpefhojmfcenfaaLgUpTo
set_option maxRecDepth 100000
set_option linter.unusedVariables false
set_option linter.unusedSimpArgs false
namespace Go.Proofs.Ytpefhojmfcenfaa.logs
open Go.Ahs

section
variable {H : Heap} {bL : Nat} {v : AVal} {L : Lg}

theorem log27 {n lim : Nat} (h : LogAt H bL v L) (hl : lim ≤ H.next) (hle : L.es.length ≤ 1000000) (hn : L.es.length + 5 ≤ n) {i : Nat} :
    ∃ r H', Ahs.runT ap (n + 4) lim (.fn 27) [ptr bL, .int .u64 (i : Int)] H = some (r, H') ∧ r = .int .u8 ((upToP L i).1 : Int) ∧ Keeps2 H H' := by
  refine F27_run (n := n + 3) a27 ?_
  unfold F27
  (repeat (first | (with_reducible apply bindP_intro; (focus (first | with_reducible rfl | (simp only [walkR, get0, getS, Nat.zero_add, Nat.add_zero, Bool.not_true, Bool.not_false, decide_true, decide_false, reduceIte, and_self, Bool.false_eq_true, log55 h] <;> with_reducible rfl)))) | (with_reducible apply bind2_intro; (focus (first | with_reducible rfl | (simp only [walkR, get0, getS, Nat.zero_add, Nat.add_zero, Bool.not_true, Bool.not_false, decide_true, decide_false, reduceIte, and_self, Bool.false_eq_true, log55 h] <;> with_reducible rfl)))) | with_reducible apply cond_t | with_reducible apply cond_f))
  refine bind2_of (log60 (n := n) (i := i) h hl hle hn) ?_
  rintro _ H1 ⟨rfl, k1⟩
  (repeat (first | (with_reducible apply bindP_intro; (focus (first | with_reducible rfl | (simp only [walkR, get0, getS, Nat.zero_add, Nat.add_zero, Bool.not_true, Bool.not_false, decide_true, decide_false, reduceIte, and_self, Bool.false_eq_true] <;> with_reducible rfl)))) | (with_reducible apply bind2_intro; (focus (first | with_reducible rfl | (simp only [walkR, get0, getS, Nat.zero_add, Nat.add_zero, Bool.not_true, Bool.not_false, decide_true, decide_false, reduceIte, and_self, Bool.false_eq_true] <;> with_reducible rfl)))) | with_reducible apply cond_t | with_reducible apply cond_f))
  exact ⟨rfl, k1⟩

theorem log26 {n lim : Nat} (h : LogAt H bL v L) (hl : lim ≤ H.next) (hle : L.es.length ≤ 1000000) (hn : L.es.length + 5 ≤ n) :
    ∃ r H', Ahs.runT ap (n + 4) lim (.fn 26) [ptr bL] H = some (r, H') ∧ r = .tup [.int .u8 ((upToP L 18446744073709551615).1 : Int), .int .u64 ((upToP L 18446744073709551615).2 : Int)] ∧ Keeps2 H H' := by
  refine F26_run (n := n + 3) a26 ?_
  unfold F26
  (repeat (first | (with_reducible apply bindP_intro; (focus (first | with_reducible rfl | (simp only [walkR, get0, getS, Nat.zero_add, Nat.add_zero, Bool.not_true, Bool.not_false, decide_true, decide_false, reduceIte, and_self, Bool.false_eq_true, log55 h] <;> with_reducible rfl)))) | (with_reducible apply bind2_intro; (focus (first | with_reducible rfl | (simp only [walkR, get0, getS, Nat.zero_add, Nat.add_zero, Bool.not_true, Bool.not_false, decide_true, decide_false, reduceIte, and_self, Bool.false_eq_true, log55 h] <;> with_reducible rfl)))) | with_reducible apply cond_t | with_reducible apply cond_f))
  refine bind2_of (log60 (n := n) (i := 18446744073709551615) h hl hle hn) ?_
  rintro _ H1 ⟨rfl, k1⟩
  (repeat (first | (with_reducible apply bindP_intro; (focus (first | with_reducible rfl | (simp only [walkR, get0, getS, Nat.zero_add, Nat.add_zero, Bool.not_true, Bool.not_false, decide_true, decide_false, reduceIte, and_self, Bool.false_eq_true] <;> with_reducible rfl)))) | (with_reducible apply bind2_intro; (focus (first | with_reducible rfl | (simp only [walkR, get0, getS, Nat.zero_add, Nat.add_zero, Bool.not_true, Bool.not_false, decide_true, decide_false, reduceIte, and_self, Bool.false_eq_true] <;> with_reducible rfl)))) | with_reducible apply cond_t | with_reducible apply cond_f))
  exact ⟨rfl, k1⟩

def resetP (L : Lg) (i t m : Nat) : Lg := ⟨i, t, m, if termP L i = some t then L.es.drop (i - L.idx) else []⟩

theorem reset_tail {n lim : Nat} {K : AVal → Heap → Prop} {H0 : Heap} {w : AVal} {i t m : Nat} {es : List Ent} {bw : Nat} (h : LogAt H bL v L) (hlow : lim ≤ bL) (ho : Own H 13 w (es.map enc) bw) (hw : ∀ c, slBlk w = some c → H0.next ≤ c) (k0 : Keeps2 H0 H) (hL0 : bL < H0.next)
    (hK : ∀ H' , LogAt H' bL w ⟨i, t, m, es⟩ → Fram (foot bL v) H0 H' → K (.tup []) H') :
    F33_j0 (Ahs.runT ap n) lim n K (ptr bL) (.int .u64 (i : Int)) (.int .u64 (t : Int)) (.int .u8 (m : Int)) w H := by
  unfold F33_j0
  have hbL := Heap.cells_lt h.cells
  have s1 : astore lim H 1 (.ptr (some (bL, 1))) (.int .u64 (i : Int)) = some (H.set bL (.cells [.bool true, .int .u64 (i : Int), .int .u64 (L.term : Int), .int .u8 (L.mem : Int), v])) := astore_cell h.cells hlow rfl rfl (by show 1 < 5; omega) rfl
  generalize hH1 : H.set bL (.cells [.bool true, .int .u64 (i : Int), .int .u64 (L.term : Int), .int .u8 (L.mem : Int), v]) = H1 at s1
  have c1 : H1.cells bL = some [.bool true, .int .u64 (i : Int), .int .u64 (L.term : Int), .int .u8 (L.mem : Int), v] := by rw [← hH1]; exact cells_set_same hbL
  have s2 : astore lim H1 1 (.ptr (some (bL, 2))) (.int .u64 (t : Int)) = some (H1.set bL (.cells [.bool true, .int .u64 (i : Int), .int .u64 (t : Int), .int .u8 (L.mem : Int), v])) := astore_cell c1 hlow rfl rfl (by show 2 < 5; omega) rfl
  generalize hH2 : H1.set bL (.cells [.bool true, .int .u64 (i : Int), .int .u64 (t : Int), .int .u8 (L.mem : Int), v]) = H2 at s2
  have n1 : H1.next = H.next := by rw [← hH1, Heap.next_set]
  have c2 : H2.cells bL = some [.bool true, .int .u64 (i : Int), .int .u64 (t : Int), .int .u8 (L.mem : Int), v] := by rw [← hH2]; exact cells_set_same (by omega)
  have s3 : astore lim H2 1 (.ptr (some (bL, 3))) (.int .u8 (m : Int)) = some (H2.set bL (.cells [.bool true, .int .u64 (i : Int), .int .u64 (t : Int), .int .u8 (m : Int), v])) := astore_cell c2 hlow rfl rfl (by show 3 < 5; omega) rfl
  generalize hH3 : H2.set bL (.cells [.bool true, .int .u64 (i : Int), .int .u64 (t : Int), .int .u8 (m : Int), v]) = H3 at s3
  have n2 : H2.next = H.next := by rw [← hH2, Heap.next_set, n1]
  have n3 : H3.next = H.next := by rw [← hH3, Heap.next_set, n2]
  have c3 : H3.cells bL = some [.bool true, .int .u64 (i : Int), .int .u64 (t : Int), .int .u8 (m : Int), v] := by rw [← hH3]; exact cells_set_same (by omega)
  have s4 : astore lim H3 1 (.ptr (some (bL, 4))) w = some (H3.set bL (.cells [.bool true, .int .u64 (i : Int), .int .u64 (t : Int), .int .u8 (m : Int), w])) := astore_cell c3 hlow ho.one.2 ho.one.1 (by show 4 < 5; omega) rfl
  (repeat (first | (with_reducible apply bindP_intro; (focus (first | with_reducible rfl | (simp only [walkR, get0, getS, Nat.zero_add, Nat.add_zero, Bool.not_true, Bool.not_false, decide_true, decide_false, reduceIte, and_self, Bool.false_eq_true, s1, s2, s3, s4] <;> with_reducible rfl)))) | (with_reducible apply bind2_intro; (focus (first | with_reducible rfl | (simp only [walkR, get0, getS, Nat.zero_add, Nat.add_zero, Bool.not_true, Bool.not_false, decide_true, decide_false, reduceIte, and_self, Bool.false_eq_true, s1, s2, s3, s4] <;> with_reducible rfl)))) | with_reducible apply cond_t | with_reducible apply cond_f))
  have f4 : Fram (fun c => c = bL) H (H3.set bL (.cells [.bool true, .int .u64 (i : Int), .int .u64 (t : Int), .int .u8 (m : Int), w])) := by
    rw [← hH3, ← hH2, ← hH1]
    exact ((((Fram.refl (fun c => c = bL) H).set' (.inl rfl)).set' (.inl rfl)).set' (.inl rfl)).set' (.inl rfl)
  refine hK _ ⟨cells_set_same (by omega), bw, ?_, fun e e0 => by have := hw bw e; omega⟩ ((Fram.of k0).trans f4 (fun c _ e => .inl e))
  rcases ho.2 with ⟨q1, q2⟩ | ⟨o', cs, q1, q2, q3, q4⟩ | ⟨q1, q2⟩
  · exact ⟨ho.1, .inl ⟨q1, q2⟩⟩
  · exact ho.frame f4 (fun e => by have := hw bw (by rw [q1]; rfl); omega)
  · exact ho.frame f4 (fun e => by have := hw bw (by rw [q1]; rfl); omega)

theorem log33 {n lim : Nat} (h : LogAt H bL v L) (hb : L.idx + L.es.length < 9223372036854775808) (hlow : lim ≤ bL) (hl : lim ≤ H.next) (hle : L.es.length ≤ 1000000) {i t m : Nat} (hi : i < 18446744073709551616) :
    ∃ r H', Ahs.runT ap (n + 4) lim (.fn 33) [ptr bL, .int .u64 (i : Int), .int .u64 (t : Int), .int .u8 (m : Int)] H = some (r, H') ∧ ∃ v', r = .tup [] ∧ LogAt H' bL v' (resetP L i t m) ∧ Fram (foot bL v) H H' ∧ (∀ c, slBlk v' = some c → H.next ≤ c) := by
  refine F33_run (n := n + 3) a33 ?_
  unfold F33
  have hrm : room = 140737488355328 := rfl
  have hbL := Heap.cells_lt h.cells
  have h18 : Ahs.runT ap (n + 3) lim (.fn 18) [ptr bL, .int .u64 (i : Int)] H = _ := log18 (n := n) h hb hi
  have none : termP L i ≠ some t → F33_j0 (Ahs.runT ap (n + 3)) lim (n + 3) (fun r H' => ∃ v', r = .tup [] ∧ LogAt H' bL v' (resetP L i t m) ∧ Fram (foot bL v) H H' ∧ (∀ c, slBlk v' = some c → H.next ≤ c)) (ptr bL) (.int .u64 (i : Int)) (.int .u64 (t : Int)) (.int .u8 (m : Int)) (.sl none 0 (.ex 0)) H := by
    intro hne
    refine reset_tail (es := []) (bw := 0) h hlow ⟨fun _ h => by simp at h, .inl ⟨rfl, rfl⟩⟩ (fun c hc => by simp [slBlk] at hc) (.refl H) hbL (fun H' hL' f' => ⟨.sl none 0 (.ex 0), rfl, ?_, f', fun c hc => by simp [slBlk] at hc⟩)
    unfold resetP
    rw [if_neg hne]; exact hL'
  cases ht : termP L i with
  | none =>
    (repeat (first | (with_reducible apply bindP_intro; (focus (first | with_reducible rfl | (simp only [walkR, get0, getS, Nat.zero_add, Nat.add_zero, Bool.not_true, Bool.not_false, decide_true, decide_false, reduceIte, and_self, Bool.false_eq_true, log55 h, h18, ht, optT] <;> with_reducible rfl)))) | (with_reducible apply bind2_intro; (focus (first | with_reducible rfl | (simp only [walkR, get0, getS, Nat.zero_add, Nat.add_zero, Bool.not_true, Bool.not_false, decide_true, decide_false, reduceIte, and_self, Bool.false_eq_true, log55 h, h18, ht, optT] <;> with_reducible rfl)))) | with_reducible apply cond_t | with_reducible apply cond_f))
    exact none (by rw [ht]; simp)
  | some t' =>
    by_cases htt : t' = t
    · subst htt
      have hq : ((t' : Int) == (t' : Int)) = true := by simp
      have hts := termP_some ht
      have hw : IntKind.u64.wrap ((i : Int) - (L.idx : Int)) = ((i - L.idx : Nat) : Int) := by rw [wrap_u64 (by omega) (by omega)]; omega
      obtain ⟨s, x1, y1, _⟩ := Sl.slice h.es (lo := some (.int .u64 ((i - L.idx : Nat) : Int))) (hi := Option.none) (l := i - L.idx) (k := L.es.length) (natOf_nat .u64 _) (by simp [natOr]) (by omega) (by simp)
      have z1 : Es H s (L.es.drop (i - L.idx)) := by
        have : ((L.es.map enc).drop (i - L.idx)).take (L.es.length - (i - L.idx)) = (L.es.drop (i - L.idx)).map enc := by
          rw [List.map_drop, List.take_of_length_le (by simp)]
        unfold Es
        rw [← this]; exact y1
      (repeat (first | (with_reducible apply bindP_intro; (focus (first | with_reducible rfl | (simp only [walkR, get0, getS, Nat.zero_add, Nat.add_zero, Bool.not_true, Bool.not_false, decide_true, decide_false, reduceIte, and_self, Bool.false_eq_true, log55 h, h18, ht, optT, hq, aload_one h.cells, hw, x1] <;> with_reducible rfl)))) | (with_reducible apply bind2_intro; (focus (first | with_reducible rfl | (simp only [walkR, get0, getS, Nat.zero_add, Nat.add_zero, Bool.not_true, Bool.not_false, decide_true, decide_false, reduceIte, and_self, Bool.false_eq_true, log55 h, h18, ht, optT, hq, aload_one h.cells, hw, x1] <;> with_reducible rfl)))) | with_reducible apply cond_t | with_reducible apply cond_f))
      refine bind2_of (clone56 (n := n + 2) z1 (by rw [List.length_drop]; omega) hl) ?_
      rintro w H1 ⟨⟨bw, o1⟩, k1, f1⟩
      refine reset_tail (h.keep k1) hlow o1 f1 k1 hbL (fun H' hL' f' => ⟨w, rfl, ?_, f', f1⟩)
      unfold resetP
      rw [if_pos ht]; exact hL'
    · have hq : ((t' : Int) == (t : Int)) = false := by rw [Bool.eq_false_iff]; simp; omega
      (repeat (first | (with_reducible apply bindP_intro; (focus (first | with_reducible rfl | (simp only [walkR, get0, getS, Nat.zero_add, Nat.add_zero, Bool.not_true, Bool.not_false, decide_true, decide_false, reduceIte, and_self, Bool.false_eq_true, log55 h, h18, ht, optT, hq] <;> with_reducible rfl)))) | (with_reducible apply bind2_intro; (focus (first | with_reducible rfl | (simp only [walkR, get0, getS, Nat.zero_add, Nat.add_zero, Bool.not_true, Bool.not_false, decide_true, decide_false, reduceIte, and_self, Bool.false_eq_true, log55 h, h18, ht, optT, hq] <;> with_reducible rfl)))) | with_reducible apply cond_t | with_reducible apply cond_f))
      exact none (by rw [ht]; simpa using htt)

def cutCode (L : Lg) (i : Nat) : Nat := if i < L.idx then 10 else if (lastP L).1 < i then 4 else 0
def cutP (L : Lg) (i : Nat) : Lg := if cutCode L i = 0 then ⟨i, (termP L i).getD 0, (upToP L i).1, L.es.drop (i - L.idx)⟩ else L

theorem log24 {n lim : Nat} (h : LogAt H bL v L) (hf : L.Fits) (hb : L.idx + L.es.length < 9223372036854775808) (hlow : lim ≤ bL) (hl : lim ≤ H.next) (hle : L.es.length ≤ 1000000) (hn : L.es.length + 5 ≤ n) {i : Nat} (hi : i < 18446744073709551616) :
    ∃ r H', Ahs.runT ap (n + 5) lim (.fn 24) [ptr bL, .int .u64 (i : Int)] H = some (r, H') ∧ ∃ v', r = .int .i64 (cutCode L i : Int) ∧ LogAt H' bL v' (cutP L i) ∧ Fram (foot bL v) H H' ∧ (∀ c, slBlk v' = some c → slBlk v = some c ∨ H.next ≤ c) := by
  refine F24_run (n := n + 4) a24 ?_
  unfold F24
  (repeat (first | (with_reducible apply bindP_intro; (focus (first | with_reducible rfl | (simp only [walkR, get0, getS, Nat.zero_add, Nat.add_zero, Bool.not_true, Bool.not_false, decide_true, decide_false, reduceIte, and_self, Bool.false_eq_true, log55 h] <;> with_reducible rfl)))) | (with_reducible apply bind2_intro; (focus (first | with_reducible rfl | (simp only [walkR, get0, getS, Nat.zero_add, Nat.add_zero, Bool.not_true, Bool.not_false, decide_true, decide_false, reduceIte, and_self, Bool.false_eq_true, log55 h] <;> with_reducible rfl)))) | with_reducible apply cond_t | with_reducible apply cond_f))
  refine bind2_of (log22 (n := n + 1) h hl (by omega)) ?_
  rintro _ H1 ⟨rfl, k1⟩
  have h1 := h.keep k1
  have n1 := k1.next
  have hlast := hf.last
  unfold cutP cutCode
  by_cases c1 : i < L.idx
  · have hd : decide ((i : Int) < (L.idx : Int)) = true := dT (by omega)
    (repeat (first | (with_reducible apply bindP_intro; (focus (first | with_reducible rfl | (simp only [walkR, get0, getS, Nat.zero_add, Nat.add_zero, Bool.not_true, Bool.not_false, decide_true, decide_false, reduceIte, and_self, Bool.false_eq_true, aload_one h1.cells, hd] <;> with_reducible rfl)))) | (with_reducible apply bind2_intro; (focus (first | with_reducible rfl | (simp only [walkR, get0, getS, Nat.zero_add, Nat.add_zero, Bool.not_true, Bool.not_false, decide_true, decide_false, reduceIte, and_self, Bool.false_eq_true, aload_one h1.cells, hd] <;> with_reducible rfl)))) | with_reducible apply cond_t | with_reducible apply cond_f))
    rw [if_pos c1, if_neg (by omega)]
    exact ⟨v, rfl, h1, .of k1, fun c hc => .inl hc⟩
  · have hd : decide ((i : Int) < (L.idx : Int)) = false := dF (by omega)
    rw [if_neg c1]
    by_cases c2 : (lastP L).1 < i
    · have hd2 : decide (((lastP L).1 : Int) < (i : Int)) = true := dT (by omega)
      (repeat (first | (with_reducible apply bindP_intro; (focus (first | with_reducible rfl | (simp only [walkR, get0, getS, Nat.zero_add, Nat.add_zero, Bool.not_true, Bool.not_false, decide_true, decide_false, reduceIte, and_self, Bool.false_eq_true, aload_one h1.cells, hd, hd2] <;> with_reducible rfl)))) | (with_reducible apply bind2_intro; (focus (first | with_reducible rfl | (simp only [walkR, get0, getS, Nat.zero_add, Nat.add_zero, Bool.not_true, Bool.not_false, decide_true, decide_false, reduceIte, and_self, Bool.false_eq_true, aload_one h1.cells, hd, hd2] <;> with_reducible rfl)))) | with_reducible apply cond_t | with_reducible apply cond_f))
      rw [if_pos c2, if_neg (by omega)]
      exact ⟨v, rfl, h1, .of k1, fun c hc => .inl hc⟩
    · have hd2 : decide (((lastP L).1 : Int) < (i : Int)) = false := dF (by omega)
      rw [if_neg c2, if_pos rfl]
      have hta := termP_at (L := L) (q := i - L.idx) (by omega)
      have e1 : L.idx + (i - L.idx) = i := by omega
      rw [e1] at hta
      generalize (endP L.idx L.term (L.es.take (i - L.idx))).2 = t at hta
      have h18 : Ahs.runT ap (n + 4) lim (.fn 18) [ptr bL, .int .u64 (i : Int)] H1 = _ := log18 (n := n + 1) h1 hb hi
      (repeat (first | (with_reducible apply bindP_intro; (focus (first | with_reducible rfl | (simp only [walkR, get0, getS, Nat.zero_add, Nat.add_zero, Bool.not_true, Bool.not_false, decide_true, decide_false, reduceIte, and_self, Bool.false_eq_true, aload_one h1.cells, hd, hd2, h18, hta, optT] <;> with_reducible rfl)))) | (with_reducible apply bind2_intro; (focus (first | with_reducible rfl | (simp only [walkR, get0, getS, Nat.zero_add, Nat.add_zero, Bool.not_true, Bool.not_false, decide_true, decide_false, reduceIte, and_self, Bool.false_eq_true, aload_one h1.cells, hd, hd2, h18, hta, optT] <;> with_reducible rfl)))) | with_reducible apply cond_t | with_reducible apply cond_f))
      refine bind2_of (log27 (n := n) (i := i) h1 (by omega) hle hn) ?_
      rintro _ H2 ⟨rfl, k2⟩
      have h2 := h1.keep k2
      have n2 := k2.next
      refine bind2_of (log33 (n := n) (i := i) (t := t) (m := (upToP L i).1) h2 hb hlow (by omega) hle hi) ?_
      rintro _ H3 ⟨v', rfl, hL3, f3, hv'⟩
      refine ⟨v', rfl, ?_, (Fram.of (k1.trans k2)).trans f3 (fun c _ e => e), fun c hc => .inr (by have := hv' c hc; omega)⟩
      unfold resetP at hL3
      rw [if_pos hta] at hL3
      rw [hta]
      exact hL3

end

/-! ## Plain facts of a cut -/

theorem find_append {α : Type} (p : α → Bool) (xs ys : List α) : (xs ++ ys).reverse.find? p = (ys.reverse.find? p).or (xs.reverse.find? p) := by
  rw [List.reverse_append, List.find?_append]

theorem cut_facts {L : Lg} (hf : L.Fits) {p : Nat} (h1 : L.idx ≤ p) (h2 : p ≤ L.idx + L.es.length) :
    cutCode L p = 0 ∧ (cutP L p).Fits ∧ (cutP L p).idx = p ∧ (cutP L p).es = L.es.drop (p - L.idx) ∧ termP L p = some (cutP L p).term ∧ (∀ j, p ≤ j → termP (cutP L p) j = termP L j) ∧ (∀ j, p ≤ j → (upToP (cutP L p) j).1 = (upToP L j).1) ∧ lastP (cutP L p) = lastP L := by
  have hlast := hf.last
  have hcode : cutCode L p = 0 := by
    unfold cutCode
    rw [if_neg (by omega), if_neg (by omega)]
  have hta := termP_at (L := L) (q := p - L.idx) (by omega)
  have e1 : L.idx + (p - L.idx) = p := by omega
  rw [e1] at hta
  obtain ⟨t, ht, hfit⟩ := hf.split (q := p - L.idx) (by omega)
  rw [e1] at ht hfit
  have hcut : cutP L p = ⟨p, t, (upToP L p).1, L.es.drop (p - L.idx)⟩ := by
    unfold cutP
    rw [if_pos hcode, ht]; rfl
  rw [hcut]
  refine ⟨hcode, hfit, rfl, rfl, ht, ?_, ?_, ?_⟩
  · intro j hj
    unfold termP
    show (if p < j ∧ j ≤ p + (L.es.drop (p - L.idx)).length then Option.map _ (L.es.drop (p - L.idx))[j - p - 1]? else if j = p then some t else none) = _
    rw [List.length_drop]
    by_cases c1 : j = p
    · subst c1
      rw [if_neg (by omega), if_pos rfl]
      unfold termP at ht
      exact ht.symm
    · by_cases c2 : j ≤ L.idx + L.es.length
      · rw [if_pos (by omega), if_pos (by omega), List.getElem?_drop]
        have : p - L.idx + (j - p - 1) = j - L.idx - 1 := by omega
        rw [this]
      · rw [if_neg (show ¬ (p < j ∧ j ≤ p + (L.es.length - (p - L.idx))) by omega), if_neg c1, if_neg (show ¬ (L.idx < j ∧ j ≤ L.idx + L.es.length) by omega), if_neg (show ¬ j = L.idx by omega)]
  · intro j hj
    have hes : L.es = L.es.take (p - L.idx) ++ L.es.drop (p - L.idx) := (List.take_append_drop _ _).symm
    have low : ∀ e ∈ L.es.take (p - L.idx), e.idx ≤ p := by
      intro e he
      obtain ⟨k, hk, hke⟩ := List.getElem_of_mem he
      rw [List.length_take] at hk
      have h3 : L.es[k]? = some e := by
        have : (L.es.take (p - L.idx))[k]? = some e := by rw [List.getElem?_eq_getElem (by rw [List.length_take]; exact hk), hke]
        rw [List.getElem?_take, if_pos (by omega)] at this
        exact this
      have := (fitP_idx hf k e h3).1
      omega
    have high : ∀ e ∈ L.es.drop (p - L.idx), p < e.idx := by
      intro e he
      obtain ⟨k, hk, hke⟩ := List.getElem_of_mem he
      have h3 : (L.es.drop (p - L.idx))[k]? = some e := by rw [List.getElem?_eq_getElem hk, hke]
      have := (fitP_idx hfit k e h3).1
      omega
    have t1 : ∀ e ∈ L.es.take (p - L.idx), tells j e = tells p e := by
      intro e he
      unfold tells
      rw [dT (low e he), dT (show e.idx ≤ j by have := low e he; omega)]
    have t2 : (L.es.drop (p - L.idx)).reverse.find? (tells p) = none := by
      rw [List.find?_eq_none]
      intro e he
      have := high e (List.mem_reverse.1 he)
      unfold tells
      rw [dF (by omega), Bool.false_and]
      simp
    have t3 : (L.es.take (p - L.idx)).reverse.find? (tells j) = (L.es.take (p - L.idx)).reverse.find? (tells p) := by
      have hall : ∀ e ∈ (L.es.take (p - L.idx)).reverse, tells j e = tells p e := fun e he => t1 e (List.mem_reverse.1 he)
      generalize (L.es.take (p - L.idx)).reverse = zs at hall
      induction zs with
      | nil => rfl
      | cons z zs ih =>
        rw [List.find?_cons, List.find?_cons, hall z (by simp), ih (fun e he => hall e (by simp [he]))]
    have u1 : L.es.reverse.find? (tells j) = ((L.es.drop (p - L.idx)).reverse.find? (tells j)).or ((L.es.take (p - L.idx)).reverse.find? (tells p)) := by
      rw [← t3, ← find_append, List.take_append_drop]
    have u2 : L.es.reverse.find? (tells p) = (L.es.take (p - L.idx)).reverse.find? (tells p) := by
      have := find_append (tells p) (L.es.take (p - L.idx)) (L.es.drop (p - L.idx))
      rw [List.take_append_drop, t2] at this
      exact this
    unfold upToP
    show (pickM (pickM L.mem L.idx (L.es.reverse.find? (tells p))).1 p ((L.es.drop (p - L.idx)).reverse.find? (tells j))).1 = _
    rw [u1, u2]
    cases (L.es.drop (p - L.idx)).reverse.find? (tells j) with
    | some e => rfl
    | none =>
      show (pickM L.mem L.idx ((L.es.take (p - L.idx)).reverse.find? (tells p))).1 = _
      rw [Option.none_or]
  · rw [lastP_end, lastP_end]
    show endP p t (L.es.drop (p - L.idx)) = endP L.idx L.term L.es
    have := endP_append (L.es.take (p - L.idx)) (L.es.drop (p - L.idx)) L.idx L.term
    rw [List.take_append_drop] at this
    rw [this]
    have e2 := fitP_end (fitP_take hf (p - L.idx))
    rw [List.length_take, Nat.min_eq_left (by omega)] at e2
    rw [e2.1, e1]
    rw [hta] at ht
    simp at ht
    rw [ht]

end Go.Proofs.Ytpefhojmfcenfaa.logs
