/- Add. -/
import Derived.Test.YtpefhojmfcenfaaLgOps2
set_option maxRecDepth 100000
set_option linter.unusedVariables false
set_option linter.unusedSimpArgs false
namespace Go.Proofs.Ytpefhojmfcenfaa.logs
open Go.Ahs

section
variable {H : Heap} {bL : Nat} {v : AVal} {L : Lg}

theorem LogAt.pick (h : LogAt H bL v L) : ∃ bv, Own H 13 v (L.es.map enc) bv ∧ bv ≠ bL ∧ (bv < H.next → slBlk v = some bv) := by
  obtain ⟨b0, h0, hne⟩ := h.own
  obtain ⟨b, h1, h2⟩ := h0.pick
  refine ⟨b, h1, fun e => ?_, h2⟩
  subst e
  have hb := h2 (Heap.cells_lt h.cells)
  have := h0.blk b hb
  subst this
  exact hne hb rfl

def addE (L : Lg) (e : Ent) : Ent := { e with idx := (lastP L).1 + 1, term := max e.term (lastP L).2 }
def addP (L : Lg) (e : Ent) : Lg := { L with es := L.es ++ [addE L e] }

theorem put_idx (e : Ent) (j : Nat) : put (enc e) 0 [.int .u64 (j : Int)] = enc { e with idx := j } := rfl
theorem put_term (e : Ent) (j : Nat) : put (enc e) 1 [.int .u64 (j : Int)] = enc { e with term := j } := rfl
theorem int_cells (k : IntKind) (i : Int) : (AVal.int k i).cells = [.int k i] := rfl

theorem log35 {n lim : Nat} (h : LogAt H bL v L) (hlow : ∀ c, foot bL v c → lim ≤ c) (hl : lim ≤ H.next) (hs : L.es.length < 1000000) (e : Ent) (hi : (lastP L).1 < 18446744073709551615) :
    ∃ r H', Ahs.runT ap (n + 4) lim (.fn 35) [ptr bL, .agg (enc e)] H = some (r, H') ∧ r = .agg (enc (addE L e)) ∧ (∃ v', LogAt H' bL v' (addP L e) ∧ ∀ c, slBlk v' = some c → H.next ≤ c) ∧ Fram (foot bL v) H H' := by
  refine F35_run a35 ?_
  unfold F35
  have hbL := Heap.cells_lt h.cells
  generalize hH2 : H.push (.cells (enc e)) = H2
  generalize hH3 : H2.push (.cells z0) = H3
  have n2 : H2.next = H.next + 1 := by rw [← hH2, Heap.next_push]
  have n3 : H3.next = H.next + 2 := by rw [← hH3, Heap.next_push]; omega
  have k2 : Keeps2 H H2 := by rw [← hH2]; exact .push _ _
  have k23 : Keeps2 H2 H3 := by rw [← hH3]; exact .push _ _
  have k3 := k2.trans k23
  have h3 := h.keep k3
  (repeat (first | (with_reducible apply bindP_intro; (focus (first | with_reducible rfl | (simp only [walkR, get0, getS, Nat.zero_add, Nat.add_zero, Bool.not_true, Bool.not_false, decide_true, decide_false, reduceIte, and_self, Bool.false_eq_true, enc_ones, hH2, hH3, log55 h3] <;> with_reducible rfl)))) | (with_reducible apply bind2_intro; (focus (first | with_reducible rfl | (simp only [walkR, get0, getS, Nat.zero_add, Nat.add_zero, Bool.not_true, Bool.not_false, decide_true, decide_false, reduceIte, and_self, Bool.false_eq_true, enc_ones, hH2, hH3, log55 h3] <;> with_reducible rfl)))) | with_reducible apply cond_t | with_reducible apply cond_f))
  refine bind2_of (log22 (n := n) h3 (by omega) (by omega)) ?_
  rintro _ H10 ⟨rfl, k10⟩
  have k := k3.trans k10
  have hn10 := k10.next
  have c1 : H10.cells H.next = some (enc e) := k10.cells (k23.cells (by rw [← hH2]; exact cells_push_new _ _))
  have c2 : H10.cells H2.next = some z0 := k10.cells (by rw [← hH3]; exact cells_push_new _ _)
  have hw : IntKind.u64.wrap (((lastP L).1 : Int) + 1) = (((lastP L).1 + 1 : Nat) : Int) := u64_succ hi
  have s1 : astore lim H10 1 (.ptr (some (H.next, 0))) (.int .u64 (((lastP L).1 + 1 : Nat) : Int)) = some (H10.set H.next (.cells (enc { e with idx := (lastP L).1 + 1 }))) :=
    astore_cell c1 hl rfl rfl (by rw [enc_len]; omega) rfl
  generalize hH18 : H10.set H.next (.cells (enc { e with idx := (lastP L).1 + 1 })) = H18 at s1
  have c18 : H18.cells H.next = some (enc { e with idx := (lastP L).1 + 1 }) := by rw [← hH18]; exact cells_set_same (by omega)
  have s2 : astore lim H18 1 (.ptr (some (H.next, 1))) (.int .u64 ((max e.term (lastP L).2 : Nat) : Int)) = some (H18.set H.next (.cells (enc (addE L e)))) :=
    astore_cell c18 hl rfl rfl (by rw [enc_len]; omega) rfl
  generalize hH20 : H18.set H.next (.cells (enc (addE L e))) = H20 at s2
  have n20 : H20.next = H10.next := by rw [← hH20, Heap.next_set, ← hH18, Heap.next_set]
  have k20 : Keeps2 H H20 := by rw [← hH20, ← hH18]; exact Keeps2.setNew (Keeps2.setNew k (Nat.le_refl _) _) (Nat.le_refl _) _
  have c20 : H20.cells H.next = some (enc (addE L e)) := by rw [← hH20]; exact cells_set_same (by rw [← hH18, Heap.next_set]; omega)
  have c20b : H20.cells H2.next = some z0 := by rw [← hH20, ← hH18]; exact cells_set_other (cells_set_other c2 (by omega)) (by omega)
  have h20 := h.keep k20
  have l20 : aload H20 (some 13) (.ptr (some (H.next, 0))) = some (.agg (enc (addE L e))) := by
    rw [aload_agg c20]; rfl
  have hf : fillV z0 [(0, 13, .agg (enc (addE L e)))] = some (enc (addE L e)) := rfl
  generalize hH26 : H20.push (.cells (enc (addE L e))) = H26
  have k26 : Keeps2 H H26 := by rw [← hH26]; exact k20.trans (.push _ _)
  have n26 : H26.next = H20.next + 1 := by rw [← hH26, Heap.next_push]
  obtain ⟨bv, o1, o2⟩ := (h.keep k26).own
  have src : source H26 13 (.sl (some (H20.next, 0)) 1 (.ex 1)) = some ([enc (addE L e)].length, [enc (addE L e)].flatten) := by
    have : Sl H26 13 (.sl (some (H20.next, 0)) 1 (.ex 1)) [enc (addE L e)] :=
      ⟨.inr ⟨H20.next, 0, .ex 1, enc (addE L e), rfl, Nat.le_refl 1, by rw [← hH26]; exact cells_push_new _ _, Nat.le_refl 13, rfl⟩, fun x hx => by simp at hx; subst hx; rfl⟩
    exact this.source
  have hrm : room = 140737488355328 := rfl
  obtain ⟨v', H28, bv', e1, e2, e3, e4, e5⟩ := own_append (lim := lim) (zero := z0) (bytes := 48) o1 rfl (by omega) src (enc_each [addE L e]) (by simp; omega) (by simp; omega)
    (fun hb => hlow _ (.inr hb))
  have e4' : H26.next ≤ bv' := by
    rcases e4 with ⟨_, h | h⟩ | h
    · simp at h
    · exact h.elim
    · exact h
  have hold : ∀ c, slBlk v = some c → c ≠ bL ∧ c < H.next := fun c hc => ⟨fun e0 => by
    have := o1.blk c hc
    exact o2 (by rw [← this]; exact hc) (by rw [← this]; exact e0), h.lt c (.inr hc)⟩
  have cL : H28.cells bL = some [.bool true, .int .u64 (L.idx : Int), .int .u64 (L.term : Int), .int .u8 (L.mem : Int), v] := e3.cells (k26.cells h.cells) (fun e0 => (hold _ e0).1 rfl)
  have ho := e2.one
  have s3 : astore lim H28 1 (.ptr (some (bL, 4))) v' = some (H28.set bL (.cells [.bool true, .int .u64 (L.idx : Int), .int .u64 (L.term : Int), .int .u8 (L.mem : Int), v'])) :=
    astore_cell cL (hlow _ (.inl rfl)) ho.2 ho.1 (by show 4 < 5; omega) rfl
  generalize hH31 : H28.set bL (.cells [.bool true, .int .u64 (L.idx : Int), .int .u64 (L.term : Int), .int .u8 (L.mem : Int), v']) = H31 at s3
  have c31 : H31.cells H.next = some (enc (addE L e)) := by
    rw [← hH31]
    exact cells_set_other (e3.cells (by rw [← hH26]; exact cells_push_old c20) (fun e0 => by have := (hold _ e0).2; omega)) (by omega)
  have c31b : H31.cells H2.next = some z0 := by
    rw [← hH31]
    exact cells_set_other (e3.cells (by rw [← hH26]; exact cells_push_old c20b) (fun e0 => by have := (hold _ e0).2; omega)) (by omega)
  have l31 : aload H31 (some 13) (.ptr (some (H.next, 0))) = some (.agg (enc (addE L e))) := by rw [aload_agg c31]; rfl
  have s4 : astore lim H31 13 (.ptr (some (H2.next, 0))) (.agg (enc (addE L e))) = some (H31.set H2.next (.cells (enc (addE L e)))) :=
    astore_whole c31b (by omega) rfl rfl rfl
  generalize hH33 : H31.set H2.next (.cells (enc (addE L e))) = H33 at s4
  have n33 : H33.next = H28.next := by rw [← hH33, Heap.next_set, ← hH31, Heap.next_set]
  have l33 : aload H33 (some 13) (.ptr (some (H2.next, 0))) = some (.agg (enc (addE L e))) := by
    rw [aload_agg (by rw [← hH33]; exact cells_set_same (by rw [← hH31, Heap.next_set]; have := e3.next; omega))]; rfl
  (repeat (first | (with_reducible apply bindP_intro; (focus (first | with_reducible rfl | (simp only [walkR, get0, getS, Nat.zero_add, Nat.add_zero, Bool.not_true, Bool.not_false, decide_true, decide_false, reduceIte, and_self, Bool.false_eq_true, hw, aload_one c1, enc1, max_nat, s1, s2, aload_one h20.cells, l20, hf, hH26, e1, s3, l31, s4, l33] <;> with_reducible rfl)))) | (with_reducible apply bind2_intro; (focus (first | with_reducible rfl | (simp only [walkR, get0, getS, Nat.zero_add, Nat.add_zero, Bool.not_true, Bool.not_false, decide_true, decide_false, reduceIte, and_self, Bool.false_eq_true, hw, aload_one c1, enc1, max_nat, s1, s2, aload_one h20.cells, l20, hf, hH26, e1, s3, l31, s4, l33] <;> with_reducible rfl)))) | with_reducible apply cond_t | with_reducible apply cond_f))
  have fr : Fram (foot bL v) H H33 := by
    have f1 : Fram (foot bL v) H H28 := (Fram.of k26).trans e3 (fun c hc hcb => .inr hcb)
    rw [← hH33, ← hH31]
    exact (f1.set' (.inl (.inl rfl))).set' (.inr (by omega))
  have c33 : H33.cells bL = some [.bool true, .int .u64 (L.idx : Int), .int .u64 (L.term : Int), .int .u8 (L.mem : Int), v'] := by
    rw [← hH33, ← hH31]
    exact cells_set_other (cells_set_same (by have := e3.next; omega)) (by omega)
  have own33 : Own H33 13 v' ((addP L e).es.map enc) bv' := by
    have : (addP L e).es.map enc = L.es.map enc ++ [addE L e].map enc := by unfold addP; simp
    rw [this]
    have f2 : Fram (fun c => c = bL ∨ c = H2.next) H28 H33 := by
      rw [← hH33, ← hH31]
      exact ((Fram.refl _ _).set' (.inl (.inl rfl))).set' (.inl (.inr rfl))
    exact e2.frame f2 (by rintro (e0 | e0) <;> omega)
  refine ⟨rfl, ⟨v', ⟨c33, bv', own33, fun _ => by omega⟩, fun c hc => ?_⟩, fr⟩
  have := own33.blk c hc
  omega

end
end Go.Proofs.Ytpefhojmfcenfaa.logs
