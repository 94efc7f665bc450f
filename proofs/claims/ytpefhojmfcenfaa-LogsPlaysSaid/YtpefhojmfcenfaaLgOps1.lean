/- What the functions of logs come to that only look. -/
import Derived.Test.YtpefhojmfcenfaaLgOpen
import Derived.Test.YtpefhojmfcenfaaLgNobody
set_option maxRecDepth 100000
set_option linter.unusedVariables false
set_option linter.unusedSimpArgs false
namespace Go.Proofs.Ytpefhojmfcenfaa.logs
open Go.Ahs

structure Lg where
  idx : Nat
  term : Nat
  mem : Nat
  es : List Ent

/-- A log: at block bL, its entries being the slice v. -/
structure LogAt (H : Heap) (bL : Nat) (v : AVal) (L : Lg) : Prop where
  cells : H.cells bL = some [.bool true, .int .u64 (L.idx : Int), .int .u64 (L.term : Int), .int .u8 (L.mem : Int), v]
  own : ∃ bv, Own H 13 v (L.es.map enc) bv ∧ (slBlk v = some bv → bv ≠ bL)

/-- Its blocks. -/
def foot (bL : Nat) (v : AVal) (c : Nat) : Prop := c = bL ∨ slBlk v = some c

abbrev ptr (b : Nat) : AVal := .ptr (some (b, 0))

section
variable {H : Heap} {bL : Nat} {v : AVal} {L : Lg}

theorem LogAt.es (h : LogAt H bL v L) : Es H v L.es := by
  obtain ⟨bv, h1, _⟩ := h.own
  exact h1.sl

theorem LogAt.frame {S : Nat → Prop} {H' : Heap} (h : LogAt H bL v L) (hf : Fram S H H') (hs : ∀ c, foot bL v c → ¬ S c) : LogAt H' bL v L := by
  obtain ⟨bv, h1, h2⟩ := h.own
  refine ⟨hf.cells h.cells (hs _ (.inl rfl)), bv, ?_, h2⟩
  rcases h1.2 with ⟨rfl, h3⟩ | ⟨o, cs, rfl, h3⟩ | ⟨h3, h4⟩
  · exact ⟨h1.1, .inl ⟨rfl, h3⟩⟩
  · exact h1.frame hf (hs _ (.inr rfl))
  · exact h1.frame hf (hs _ (.inr (by rw [h3]; rfl)))

theorem LogAt.keep {H' : Heap} (h : LogAt H bL v L) (hk : Keeps2 H H') : LogAt H' bL v L := h.frame (S := fun _ => False) (.of hk) (fun _ _ h => h)

theorem LogAt.lt (h : LogAt H bL v L) : ∀ c, foot bL v c → c < H.next := by
  intro c hc
  rcases hc with rfl | hc
  · exact Heap.cells_lt h.cells
  · obtain ⟨bv, h1, _⟩ := h.own
    have := h1.blk c hc
    subst this
    rcases h1.2 with ⟨rfl, _⟩ | ⟨o, cs, rfl, _, h3, _⟩ | ⟨h3, h4⟩
    · simp [slBlk] at hc
    · exact Heap.cells_lt h3
    · exact Heap.cells_lt h4

theorem log55 {n lim : Nat} (h : LogAt H bL v L) : Ahs.runT ap (n + 1) lim (.fn 55) [ptr bL] H = some (.bool false, H) := by
  refine run_eqn (F55_run a55 ?_)
  unfold F55
  (repeat (first | (with_reducible apply bindP_intro; (focus (first | with_reducible rfl | (simp only [walkR, get0, getS, Nat.zero_add, Nat.add_zero, Bool.not_true, Bool.not_false, decide_true, decide_false, reduceIte, and_self, Bool.false_eq_true, aload_one h.cells] <;> with_reducible rfl)))) | (with_reducible apply bind2_intro; (focus (first | with_reducible rfl | (simp only [walkR, get0, getS, Nat.zero_add, Nat.add_zero, Bool.not_true, Bool.not_false, decide_true, decide_false, reduceIte, and_self, Bool.false_eq_true, aload_one h.cells] <;> with_reducible rfl)))) | with_reducible apply cond_t | with_reducible apply cond_f))
  exact ⟨rfl, rfl⟩

theorem log25 {n lim : Nat} (h : LogAt H bL v L) : Ahs.runT ap (n + 2) lim (.fn 25) [ptr bL] H = some (.tup [.int .u64 (L.idx : Int), .int .u64 (L.term : Int)], H) := by
  refine run_eqn (F25_run a25 ?_)
  unfold F25
  (repeat (first | (with_reducible apply bindP_intro; (focus (first | with_reducible rfl | (simp only [walkR, get0, getS, Nat.zero_add, Nat.add_zero, Bool.not_true, Bool.not_false, decide_true, decide_false, reduceIte, and_self, Bool.false_eq_true, log55 h, aload_one h.cells] <;> with_reducible rfl)))) | (with_reducible apply bind2_intro; (focus (first | with_reducible rfl | (simp only [walkR, get0, getS, Nat.zero_add, Nat.add_zero, Bool.not_true, Bool.not_false, decide_true, decide_false, reduceIte, and_self, Bool.false_eq_true, log55 h, aload_one h.cells] <;> with_reducible rfl)))) | with_reducible apply cond_t | with_reducible apply cond_f))
  exact ⟨rfl, rfl⟩

def lastP (L : Lg) : Nat × Nat := match L.es.getLast? with
  | none => (L.idx, L.term)
  | some e => (e.idx, e.term)

theorem log22 {n lim : Nat} (h : LogAt H bL v L) (hl : lim ≤ H.next) (hs : L.es.length < 9223372036854775807) : ∃ r H', Ahs.runT ap (n + 3) lim (.fn 22) [ptr bL] H = some (r, H') ∧ r = .tup [.int .u64 ((lastP L).1 : Int), .int .u64 ((lastP L).2 : Int)] ∧ Keeps2 H H' := by
  refine F22_run a22 ?_
  unfold F22
  have hes := h.es
  by_cases h0 : L.es.length = 0
  · have hd : ((L.es.length : Int) == 0) = true := by rw [h0]; rfl
    have hL : lastP L = (L.idx, L.term) := by unfold lastP; rw [List.length_eq_zero_iff.1 h0]; rfl
    (repeat (first | (with_reducible apply bindP_intro; (focus (first | with_reducible rfl | (simp only [walkR, get0, getS, Nat.zero_add, Nat.add_zero, Bool.not_true, Bool.not_false, decide_true, decide_false, reduceIte, and_self, Bool.false_eq_true, log55 h, aload_one h.cells, hes.len, hd, log25 h] <;> with_reducible rfl)))) | (with_reducible apply bind2_intro; (focus (first | with_reducible rfl | (simp only [walkR, get0, getS, Nat.zero_add, Nat.add_zero, Bool.not_true, Bool.not_false, decide_true, decide_false, reduceIte, and_self, Bool.false_eq_true, log55 h, aload_one h.cells, hes.len, hd, log25 h] <;> with_reducible rfl)))) | with_reducible apply cond_t | with_reducible apply cond_f))
    rw [hL]
    exact ⟨rfl, .refl _⟩
  · have hd : ((L.es.length : Int) == 0) = false := by rw [Bool.eq_false_iff]; simp; exact fun e => h0 (by rw [e]; rfl)
    have hi : L.es.length - 1 < L.es.length := by omega
    have hw : IntKind.i64.wrap ((L.es.length : Int) - 1) = ((L.es.length - 1 : Nat) : Int) := by rw [wrap_i64 (by omega) (by omega)]; omega
    have hL : lastP L = (L.es[L.es.length - 1].idx, L.es[L.es.length - 1].term) := by
      unfold lastP
      rw [List.getLast?_eq_getElem?, List.getElem?_eq_getElem hi]
    (repeat (first | (with_reducible apply bindP_intro; (focus (first | with_reducible rfl | (simp only [walkR, get0, getS, Nat.zero_add, Nat.add_zero, Bool.not_true, Bool.not_false, decide_true, decide_false, reduceIte, and_self, Bool.false_eq_true, log55 h, aload_one h.cells, hes.len, hd, hw, hes.addr hi, hes.load hi, st13 hl, aload_new1, enc0, enc1] <;> with_reducible rfl)))) | (with_reducible apply bind2_intro; (focus (first | with_reducible rfl | (simp only [walkR, get0, getS, Nat.zero_add, Nat.add_zero, Bool.not_true, Bool.not_false, decide_true, decide_false, reduceIte, and_self, Bool.false_eq_true, log55 h, aload_one h.cells, hes.len, hd, hw, hes.addr hi, hes.load hi, st13 hl, aload_new1, enc0, enc1] <;> with_reducible rfl)))) | with_reducible apply cond_t | with_reducible apply cond_f))
    rw [hL]
    exact ⟨rfl, .push _ _⟩

theorem log54 {n lim : Nat} (h : LogAt H bL v L) (hb : L.idx + L.es.length < 9223372036854775808) {i : Nat} (hi : i < 18446744073709551616) :
    Ahs.runT ap (n + 2) lim (.fn 54) [ptr bL, .int .u64 (i : Int)] H = some (if L.idx < i ∧ i ≤ L.idx + L.es.length then .tup [.int .i64 ((i - L.idx - 1 : Nat) : Int), .bool true] else .tup [.int .i64 0, .bool false], H) := by
  refine run_eqn (F54_run a54 ?_)
  unfold F54
  have hes := h.es
  have hwl : IntKind.u64.wrap (L.es.length : Int) = (L.es.length : Int) := wrap_u64 (by omega) (by omega)
  by_cases h1 : i ≤ L.idx
  · have hd : decide ((i : Int) ≤ (L.idx : Int)) = true := dT (by omega)
    (repeat (first | (with_reducible apply bindP_intro; (focus (first | with_reducible rfl | (simp only [walkR, get0, getS, Nat.zero_add, Nat.add_zero, Bool.not_true, Bool.not_false, decide_true, decide_false, reduceIte, and_self, Bool.false_eq_true, log55 h, aload_one h.cells, hd] <;> with_reducible rfl)))) | (with_reducible apply bind2_intro; (focus (first | with_reducible rfl | (simp only [walkR, get0, getS, Nat.zero_add, Nat.add_zero, Bool.not_true, Bool.not_false, decide_true, decide_false, reduceIte, and_self, Bool.false_eq_true, log55 h, aload_one h.cells, hd] <;> with_reducible rfl)))) | with_reducible apply cond_t | with_reducible apply cond_f))
    rw [if_neg (by omega)]
    exact ⟨rfl, rfl⟩
  · have hd : decide ((i : Int) ≤ (L.idx : Int)) = false := dF (by omega)
    have hw : IntKind.u64.wrap ((i : Int) - (L.idx : Int)) = ((i - L.idx : Nat) : Int) := by rw [wrap_u64 (by omega) (by omega)]; omega
    by_cases h2 : i ≤ L.idx + L.es.length
    · have hd2 : decide ((L.es.length : Int) < ((i - L.idx : Nat) : Int)) = false := dF (by omega)
      have hw2 : IntKind.i64.wrap ((i - L.idx : Nat) : Int) = ((i - L.idx : Nat) : Int) := wrap_i64 (by omega) (by omega)
      have hw3 : IntKind.i64.wrap (((i - L.idx : Nat) : Int) - 1) = ((i - L.idx - 1 : Nat) : Int) := by rw [wrap_i64 (by omega) (by omega)]; omega
      (repeat (first | (with_reducible apply bindP_intro; (focus (first | with_reducible rfl | (simp only [walkR, get0, getS, Nat.zero_add, Nat.add_zero, Bool.not_true, Bool.not_false, decide_true, decide_false, reduceIte, and_self, Bool.false_eq_true, log55 h, aload_one h.cells, hd, hw, hes.len, hwl, hd2, hw2, hw3] <;> with_reducible rfl)))) | (with_reducible apply bind2_intro; (focus (first | with_reducible rfl | (simp only [walkR, get0, getS, Nat.zero_add, Nat.add_zero, Bool.not_true, Bool.not_false, decide_true, decide_false, reduceIte, and_self, Bool.false_eq_true, log55 h, aload_one h.cells, hd, hw, hes.len, hwl, hd2, hw2, hw3] <;> with_reducible rfl)))) | with_reducible apply cond_t | with_reducible apply cond_f))
      rw [if_pos ⟨by omega, h2⟩]
      exact ⟨rfl, rfl⟩
    · have hd2 : decide ((L.es.length : Int) < ((i - L.idx : Nat) : Int)) = true := dT (by omega)
      (repeat (first | (with_reducible apply bindP_intro; (focus (first | with_reducible rfl | (simp only [walkR, get0, getS, Nat.zero_add, Nat.add_zero, Bool.not_true, Bool.not_false, decide_true, decide_false, reduceIte, and_self, Bool.false_eq_true, log55 h, aload_one h.cells, hd, hw, hes.len, hwl, hd2] <;> with_reducible rfl)))) | (with_reducible apply bind2_intro; (focus (first | with_reducible rfl | (simp only [walkR, get0, getS, Nat.zero_add, Nat.add_zero, Bool.not_true, Bool.not_false, decide_true, decide_false, reduceIte, and_self, Bool.false_eq_true, log55 h, aload_one h.cells, hd, hw, hes.len, hwl, hd2] <;> with_reducible rfl)))) | with_reducible apply cond_t | with_reducible apply cond_f))
      rw [if_neg (by omega)]
      exact ⟨rfl, rfl⟩

/-- The term at an index. -/
def termP (L : Lg) (i : Nat) : Option Nat :=
  if L.idx < i ∧ i ≤ L.idx + L.es.length then (L.es[i - L.idx - 1]?).map (·.term) else if i = L.idx then some L.term else none

def optT : Option Nat → AVal
  | some t => .tup [.int .u64 (t : Int), .bool true]
  | none => .tup [.int .u64 0, .bool false]

theorem log18 {n lim : Nat} (h : LogAt H bL v L) (hb : L.idx + L.es.length < 9223372036854775808) {i : Nat} (hi : i < 18446744073709551616) :
    Ahs.runT ap (n + 3) lim (.fn 18) [ptr bL, .int .u64 (i : Int)] H = some (optT (termP L i), H) := by
  refine run_eqn (F18_run a18 ?_)
  unfold F18
  have hes := h.es
  by_cases h1 : L.idx < i ∧ i ≤ L.idx + L.es.length
  · have hk : i - L.idx - 1 < L.es.length := by omega
    (repeat (first | (with_reducible apply bindP_intro; (focus (first | with_reducible rfl | (simp only [walkR, get0, getS, Nat.zero_add, Nat.add_zero, Bool.not_true, Bool.not_false, decide_true, decide_false, reduceIte, and_self, Bool.false_eq_true, log54 h hb hi, h1, aload_one h.cells, hes.addr hk, hes.faddr hk, hes.term hk] <;> with_reducible rfl)))) | (with_reducible apply bind2_intro; (focus (first | with_reducible rfl | (simp only [walkR, get0, getS, Nat.zero_add, Nat.add_zero, Bool.not_true, Bool.not_false, decide_true, decide_false, reduceIte, and_self, Bool.false_eq_true, log54 h hb hi, h1, aload_one h.cells, hes.addr hk, hes.faddr hk, hes.term hk] <;> with_reducible rfl)))) | with_reducible apply cond_t | with_reducible apply cond_f))
    unfold termP
    rw [if_pos h1, List.getElem?_eq_getElem hk]
    exact ⟨rfl, rfl⟩
  · by_cases h2 : i = L.idx
    · have hd : ((i : Int) != (L.idx : Int)) = false := by rw [h2]; simp
      (repeat (first | (with_reducible apply bindP_intro; (focus (first | with_reducible rfl | (simp only [walkR, get0, getS, Nat.zero_add, Nat.add_zero, Bool.not_true, Bool.not_false, decide_true, decide_false, reduceIte, and_self, Bool.false_eq_true, log54 h hb hi, h1, log55 h, aload_one h.cells, hd] <;> with_reducible rfl)))) | (with_reducible apply bind2_intro; (focus (first | with_reducible rfl | (simp only [walkR, get0, getS, Nat.zero_add, Nat.add_zero, Bool.not_true, Bool.not_false, decide_true, decide_false, reduceIte, and_self, Bool.false_eq_true, log54 h hb hi, h1, log55 h, aload_one h.cells, hd] <;> with_reducible rfl)))) | with_reducible apply cond_t | with_reducible apply cond_f))
      unfold termP
      rw [if_neg h1, if_pos h2]
      exact ⟨rfl, rfl⟩
    · have hd : ((i : Int) != (L.idx : Int)) = true := by simp; omega
      (repeat (first | (with_reducible apply bindP_intro; (focus (first | with_reducible rfl | (simp only [walkR, get0, getS, Nat.zero_add, Nat.add_zero, Bool.not_true, Bool.not_false, decide_true, decide_false, reduceIte, and_self, Bool.false_eq_true, log54 h hb hi, h1, log55 h, aload_one h.cells, hd] <;> with_reducible rfl)))) | (with_reducible apply bind2_intro; (focus (first | with_reducible rfl | (simp only [walkR, get0, getS, Nat.zero_add, Nat.add_zero, Bool.not_true, Bool.not_false, decide_true, decide_false, reduceIte, and_self, Bool.false_eq_true, log54 h hb hi, h1, log55 h, aload_one h.cells, hd] <;> with_reducible rfl)))) | with_reducible apply cond_t | with_reducible apply cond_f))
      unfold termP
      rw [if_neg h1, if_neg h2]
      exact ⟨rfl, rfl⟩

theorem enc_each (es : List Ent) : ∀ x ∈ es.map enc, x.length = 13 ∧ x.all (·.one) = true := by
  intro x hx
  obtain ⟨e, _, rfl⟩ := List.mem_map.1 hx
  exact ⟨rfl, rfl⟩

theorem clone56 {n lim : Nat} {w : AVal} {es : List Ent} (h : Es H w es) (hr : es.length * 48 ≤ room) (hl : lim ≤ H.next) :
    ∃ r H', Ahs.runT ap (n + 1) lim (.fn 56) [w] H = some (r, H') ∧ (∃ b, Own H' 13 r (es.map enc) b) ∧ Keeps2 H H' ∧ (∀ c, slBlk r = some c → H.next ≤ c) := by
  refine F56_run a56 ?_
  unfold F56
  rcases h.at' with ⟨a, c, rfl, hc, hnil⟩ | ⟨b, o, c, cs, rfl, hc, _⟩
  · cases a with
    | none =>
      have hq : eqvO false .sl (.sl none 0 c) (.sl none 0 (.ex 0)) = some (.bool true) := rfl
      (repeat (first | (with_reducible apply bindP_intro; (focus (first | with_reducible rfl | (simp only [walkR, get0, getS, Nat.zero_add, Nat.add_zero, Bool.not_true, Bool.not_false, decide_true, decide_false, reduceIte, and_self, Bool.false_eq_true, hq] <;> with_reducible rfl)))) | (with_reducible apply bind2_intro; (focus (first | with_reducible rfl | (simp only [walkR, get0, getS, Nat.zero_add, Nat.add_zero, Bool.not_true, Bool.not_false, decide_true, decide_false, reduceIte, and_self, Bool.false_eq_true, hq] <;> with_reducible rfl)))) | with_reducible apply cond_t | with_reducible apply cond_f))
      rw [hnil]
      exact ⟨⟨0, fun _ h => by simp at h, .inl ⟨rfl, rfl⟩⟩, .refl _, fun c hc => by simp [slBlk] at hc⟩
    | some p =>
      obtain ⟨b, o⟩ := p
      have hq : eqvO false .sl (.sl (some (b, o)) 0 c) (.sl none 0 (.ex 0)) = some (.bool false) := rfl
      have hf : fillV [] [] = some [] := rfl
      have ho : Own (H.push (.cells [])) 13 (.sl (some (H.next, 0)) 0 (.ex 0)) [] H.next := ⟨fun _ h => by simp at h, .inr (.inl ⟨0, [], rfl, rfl, cells_push_new H [], Nat.le_refl 0⟩)⟩
      obtain ⟨v', H', bv', e1, e2, e3, e4, e5⟩ := own_append (lim := lim) (zero := z0) (bytes := 48) (x := .sl (some (b, o)) 0 c) (ys := []) ho rfl (by omega) rfl (fun _ h => by simp at h) (by simp) (by simp) (fun _ => hl)
      (repeat (first | (with_reducible apply bindP_intro; (focus (first | with_reducible rfl | (simp only [walkR, get0, getS, Nat.zero_add, Nat.add_zero, Bool.not_true, Bool.not_false, decide_true, decide_false, reduceIte, and_self, Bool.false_eq_true, hq, hf, e1] <;> with_reducible rfl)))) | (with_reducible apply bind2_intro; (focus (first | with_reducible rfl | (simp only [walkR, get0, getS, Nat.zero_add, Nat.add_zero, Bool.not_true, Bool.not_false, decide_true, decide_false, reduceIte, and_self, Bool.false_eq_true, hq, hf, e1] <;> with_reducible rfl)))) | with_reducible apply cond_t | with_reducible apply cond_f))
      rw [hnil]
      have hk : Keeps2 H H' := Fram.keeps (.push _ _) e3 (fun c hc e => by simp [slBlk] at e; omega)
      exact ⟨⟨bv', by simpa using e2⟩, hk, fun c hc => by
        have := e2.blk c hc
        subst this
        rcases e4 with ⟨rfl, _⟩ | e4
        · exact Nat.le_refl _
        · rw [Heap.next_push] at e4; omega⟩
  · have hq : eqvO false .sl (.sl (some (b, o)) (es.map enc).length c) (.sl none 0 (.ex 0)) = some (.bool false) := rfl
    have hf : fillV [] [] = some [] := rfl
    have ho : Own (H.push (.cells [])) 13 (.sl (some (H.next, 0)) 0 (.ex 0)) [] H.next := ⟨fun _ h => by simp at h, .inr (.inl ⟨0, [], rfl, rfl, cells_push_new H [], Nat.le_refl 0⟩)⟩
    have hsrc := Sl.source (Sl.keep (.push H (.cells [])) h)
    have hr2 : room = 140737488355328 := rfl
    obtain ⟨v', H', bv', e1, e2, e3, e4, e5⟩ := own_append (lim := lim) (zero := z0) (bytes := 48) (ys := es.map enc) ho rfl (by omega) hsrc (enc_each es) (by simpa using hr) (by simp; omega) (fun _ => hl)
    (repeat (first | (with_reducible apply bindP_intro; (focus (first | with_reducible rfl | (simp only [walkR, get0, getS, Nat.zero_add, Nat.add_zero, Bool.not_true, Bool.not_false, decide_true, decide_false, reduceIte, and_self, Bool.false_eq_true, hq, hf, e1] <;> with_reducible rfl)))) | (with_reducible apply bind2_intro; (focus (first | with_reducible rfl | (simp only [walkR, get0, getS, Nat.zero_add, Nat.add_zero, Bool.not_true, Bool.not_false, decide_true, decide_false, reduceIte, and_self, Bool.false_eq_true, hq, hf, e1] <;> with_reducible rfl)))) | with_reducible apply cond_t | with_reducible apply cond_f))
    have hk : Keeps2 H H' := Fram.keeps (.push _ _) e3 (fun c hc e => by simp [slBlk] at e; omega)
    exact ⟨⟨bv', by simpa using e2⟩, hk, fun c hc => by
      have := e2.blk c hc
      subst this
      rcases e4 with ⟨rfl, _⟩ | e4
      · exact Nat.le_refl _
      · rw [Heap.next_push] at e4; omega⟩

end
end Go.Proofs.Ytpefhojmfcenfaa.logs
