/- What writing, making and killing a block does to the relation between the heaps. -/
import Derived.Test.YtnlimogbokkfpaaGreatChsA3
set_option linter.unusedSimpArgs false
set_option linter.unusedVariables false
namespace Go.Ahs
theorem add_eq (b o n : Nat) : (⟨b, o, none⟩ : Addr).add n = ⟨b, o + n, none⟩ := by
 unfold Addr.add
 split
 ·subst_vars; rfl
 ·rfl
section
variable {P : Program}
theorem cell_of {w : World} {blk : Nat} {c : Array Value} {e : TypeId} {fr : Nat × Nat} (h : w.heap[blk]? = some (.cells c e fr)) (o : Nat) :
  w.cell? ⟨blk, o, none⟩ = c[o]? := by simp [World.cell?, h]
theorem frozen_of {w : World} {blk : Nat} {c : Array Value} {e : TypeId} {fr : Nat × Nat} (h : w.heap[blk]? = some (.cells c e fr)) (o : Nat) (hf : ¬ (fr.1 ≤ o ∧ o < fr.2)) :
  w.frozen? ⟨blk, o, none⟩ = false := by
 obtain ⟨x, y⟩ := fr
 simp [World.frozen?, h] at hf ⊢
 exact hf
theorem run_loadCells_blk {w : World} {blk o n : Nat} {c : Array Value} {e : TypeId} {fr : Nat × Nat} (h : w.heap[blk]? = some (.cells c e fr)) (hn : o + n ≤ c.size) :
  (loadCells ⟨blk, o, none⟩ n).run P w = .ok ((c.toList.drop o).take n).toArray w := by
 have hl : ((c.toList.drop o).take n).length = n := by simp; omega
 have := run_loadCells_list (P := P) w ⟨blk, o, none⟩ ((c.toList.drop o).take n) (by
  intro j v hj
  rw [add_eq, cell_of h]
  rw [List.getElem?_take] at hj
  split at hj
  ·rw [List.getElem?_drop] at hj
   simpa using hj
  ·simp at hj)
 rwa [hl] at this
theorem heap_setCell {w : World} {blk o : Nat} {c : Array Value} {e : TypeId} {fr : Nat × Nat} (h : w.heap[blk]? = some (.cells c e fr)) (v : Value) :
  (w.setCell ⟨blk, o, none⟩ v).heap.size = w.heap.size ∧ (∀ r, r ≠ blk → (w.setCell ⟨blk, o, none⟩ v).heap[r]? = w.heap[r]?) ∧
   (w.setCell ⟨blk, o, none⟩ v).heap[blk]? = some (.cells (c.setIfInBounds o v) e fr) := by
 refine ⟨by simp [World.setCell], fun r hr => ?_, ?_⟩
 ·simp [World.setCell, Array.getElem?_modify, Ne.symm hr]
 ·simp [World.setCell, Array.getElem?_modify, h]
theorem run_storeCells_blk {blk o : Nat} {e : TypeId} {fr : Nat × Nat} : ∀ (vs : List Value) (i : Nat) (w : World) (c : Array Value), w.heap[blk]? = some (.cells c e fr) →
  o + i + vs.length ≤ c.size → (∀ k, o + i ≤ k → k < o + i + vs.length → ¬ (fr.1 ≤ k ∧ k < fr.2)) → (∀ v ∈ vs, v.oneCell' = true) →
  ∃ w' c', (storeCells ⟨blk, o, none⟩ vs i).run P w = .ok () w' ∧ w'.heap.size = w.heap.size ∧ (∀ r, r ≠ blk → w'.heap[r]? = w.heap[r]?) ∧
   w'.heap[blk]? = some (.cells c' e fr) ∧ Same w w' ∧ c'.toList = c.toList.take (o + i) ++ vs ++ c.toList.drop (o + i + vs.length)
 | [], i, w, c, h, _, _, _ => ⟨w, c, by simp [storeCells], rfl, fun _ _ => rfl, h, .refl w, by simp⟩
 | v :: vs, i, w, c, h, hn, hf, h1 => by
  simp only [List.length_cons] at hn hf
  obtain ⟨g1, g2, g3⟩ := heap_setCell (o := o + i) h v
  obtain ⟨w', c', r1, r2, r3, r4, r6, r5⟩ := run_storeCells_blk (blk := blk) (o := o) vs (i + 1) (w.setCell ⟨blk, o + i, none⟩ v) (c.setIfInBounds (o + i) v) g3 (by rw [Array.size_setIfInBounds]; omega) (fun k hk hk' => hf k (by omega) (by omega)) (fun u hu => h1 u (by simp [hu]))
  refine ⟨w', c', ?_, r2.trans g1, fun r hr => (r3 r hr).trans (g2 r hr), r4, r6, ?_⟩
  ·simp only [storeCells, Sem.run_bind]
   have hlt : o + i < c.size := by omega
   rw [add_eq, run_store P w _ v _ (h1 v (by simp)), cell_of h, Array.getElem?_eq_getElem hlt]
   simp only [frozen_of h _ (hf (o + i) (by omega) (by omega)), Bool.false_eq_true, if_false, Result.andThen_ok]
   exact r1
  ·rw [r5]
   simp only [Array.toList_setIfInBounds, List.length_cons]
   have hlt : o + i < c.toList.length := by simpa using (by omega : o + i < c.size)
   rw [show o + (i + 1) = o + i + 1 from rfl, List.take_set, List.drop_set]
   rw [if_pos (by omega : o + i < o + i + 1 + vs.length)]
   rw [List.take_succ_eq_append_getElem hlt, List.set_append]
   have hlt' : o + i < c.size := by omega
   simp only [List.length_take, Array.length_toList, Nat.min_eq_left (Nat.le_of_lt hlt'), Nat.lt_irrefl, if_false, Nat.sub_self, List.set_cons_zero,
    List.append_assoc, List.singleton_append, show o + i + 1 + vs.length = o + i + (vs.length + 1) by omega, List.cons_append, List.nil_append]
end
def upd (ρ : Mp) (b : Nat) (L : Loc) : Mp := fun x => if x = b then some L else ρ x
theorem upd_same (ρ : Mp) (b : Nat) (L : Loc) : upd ρ b L b = some L := by simp [upd]
theorem upd_other (ρ : Mp) {b x : Nat} (L : Loc) (h : x ≠ b) : upd ρ b L x = ρ x := by simp [upd, h]
theorem ext_upd {ρ : Mp} {b : Nat} (L : Loc) (h : ρ b = none) : Ext ρ (upd ρ b L) := fun x L' e => by
 by_cases hx : x = b
 ·subst hx; rw [h] at e; simp at e
 ·rw [upd_other _ _ hx]; exact e
section
variable {P : Program} {n0 lim : Nat} {ρ : Mp} {H : Heap} {w w' : World}
theorem Rel.cells (hr : Rel P n0 ρ H w) {b : Nat} {L : Loc} {cs : List AVal} (hb : ρ b = some L) (hc : H.cells b = some cs) :
  ∃ c e fr, w.heap[L.blk]? = some (.cells c e fr) ∧ c.size = L.csz ∧ (n0 ≤ b → ∀ i, i < c.size → ¬ (fr.1 ≤ i ∧ i < fr.2)) ∧
   L.d + cs.length ≤ c.size ∧ LRel ρ cs ((c.toList.drop L.d).take cs.length) := by
 obtain ⟨c, ⟨e, fr, h1, h2, h3⟩, h4, h5⟩ := hr.row b L cs hb (Heap.cells_eq.1 hc)
 exact ⟨c, e, fr, h1, h2, h3, h4, h5⟩
structure Turned (P : Program) (n0 : Nat) (ρ : Mp) (w : World) (b : Nat) (L : Loc) (x : Blk) : Prop where
 row : ∀ cs, x = .cells cs → ∃ c, Row w L c (n0 ≤ b) ∧ L.d + cs.length ≤ c.size ∧ LRel ρ cs ((c.toList.drop L.d).take cs.length)
 map : ∀ es clock, x = .map es clock → ∃ es', w.heap[L.blk]? = some (.map es' clock.n) ∧ MOK ρ es clock es'.toList
 loop : ∀ r, x = .loop r → ∃ r', w.heap[L.blk]? = some (.loop r') ∧ LoopRel P ρ r r'
theorem Turned.dead {b : Nat} {L : Loc} : Turned P n0 ρ w b L .dead := ⟨fun _ h => by simp at h, fun _ _ h => by simp at h, fun _ h => by simp at h⟩
theorem Rel.turn (hr : Rel P n0 ρ H w) {b : Nat} {L : Loc} {x x' : Blk} (hl : n0 ≤ lim) (hb : lim ≤ b) (hρ : ρ b = some L) (hH : H.get b = some x) (hx : x ≠ .dead) (hs : w.heap.size ≤ w'.heap.size)
  (ho : ∀ r, r < w.heap.size → r ≠ L.blk → w'.heap[r]? = w.heap[r]?) (hn : Turned P n0 ρ w' b L x') (hrest : Same w w') : Post P n0 lim ρ H w ρ (H.set b x') w' := by
 have hlt := Heap.get_lt hH
 have hlive : ∀ b', ((H.set b x').get b').isSome → (H.set b x').get b' ≠ some .dead → (H.get b').isSome ∧ H.get b' ≠ some .dead := by
  intro b' h1 h2
  by_cases hb' : b' = b
  ·subst hb'; rw [hH]; simpa using hx
  ·rw [Heap.get_set_other _ _ _ _ hb'] at h1 h2; exact ⟨h1, h2⟩
 have hother : ∀ b1 L1 y, b1 ≠ b → ρ b1 = some L1 → H.get b1 = some y → y ≠ .dead → w'.heap[L1.blk]? = w.heap[L1.blk]? := by
  intro b1 L1 y h1 h2 h3 h4
  have hne : L.blk ≠ L1.blk := hr.excl b b1 L L1 (by omega) (Ne.symm h1) hρ h2 (by rw [hH]; rfl) (by rw [h3]; rfl) (by rw [hH]; simpa using hx) (by rw [h3]; simpa using h4)
  exact ho _ (hr.dom _ _ h2) (Ne.symm hne)
 refine ⟨⟨?_, ?_, ?_, ?_, ?_⟩, .refl ρ, fun b L e e' => by rw [e] at e'; simp at e', ?_, hs, ?_, Nat.le_refl _, hrest⟩
 ·intro b1 L1 cs1 e1 e2
  by_cases hb1 : b1 = b
  ·subst hb1
   rw [Heap.get_set_same _ _ _ hlt] at e2
   rw [hρ] at e1
   simp at e1 e2
   subst e1
   exact hn.row _ e2
  ·rw [Heap.get_set_other _ _ _ _ hb1] at e2
   obtain ⟨c0, ⟨t0, fr0, q1, q2, q3⟩, q4, q5⟩ := hr.row b1 L1 cs1 e1 e2
   exact ⟨c0, ⟨t0, fr0, by rw [hother b1 L1 _ hb1 e1 e2 (by simp)]; exact q1, q2, q3⟩, q4, q5⟩
 ·intro b1 L1 es cl e1 e2
  by_cases hb1 : b1 = b
  ·subst hb1
   rw [Heap.get_set_same _ _ _ hlt] at e2
   rw [hρ] at e1
   simp at e1 e2
   subst e1
   exact hn.map _ _ e2
  ·rw [Heap.get_set_other _ _ _ _ hb1] at e2
   obtain ⟨es', q1, q2⟩ := hr.map b1 L1 es cl e1 e2
   exact ⟨es', by rw [hother b1 L1 _ hb1 e1 e2 (by simp)]; exact q1, q2⟩
 ·intro b1 L1 r e1 e2
  by_cases hb1 : b1 = b
  ·subst hb1
   rw [Heap.get_set_same _ _ _ hlt] at e2
   rw [hρ] at e1
   simp at e1 e2
   subst e1
   exact hn.loop _ e2
  ·rw [Heap.get_set_other _ _ _ _ hb1] at e2
   obtain ⟨r', q1, q2⟩ := hr.loop b1 L1 r e1 e2
   exact ⟨r', by rw [hother b1 L1 _ hb1 e1 e2 (by simp)]; exact q1, q2⟩
 ·intro b1 L1 e1; exact Nat.lt_of_lt_of_le (hr.dom b1 L1 e1) hs
 ·intro b1 b2 L1 L2 g1 g2 g3 g4 g5 g6 g7 g8
  exact hr.excl b1 b2 L1 L2 g1 g2 g3 g4 (hlive b1 g5 g7).1 (hlive b2 g6 g8).1 (hlive b1 g5 g7).2 (hlive b2 g6 g8).2
 ·intro r hr' hn'
  exact ho r hr' (Ne.symm (hn' b L hb hlt hρ))
 ·intro b1 hb1
  exact Heap.get_set_other _ _ _ _ (by omega)
theorem Rel.write (hr : Rel P n0 ρ H w) {b : Nat} {L : Loc} {cs cs' : List AVal} {c c' : Array Value} {e : TypeId} {fr : Nat × Nat} (hl : n0 ≤ lim) (hb : lim ≤ b)
  (hρ : ρ b = some L) (hH : H.cells b = some cs) (hlen : cs'.length = cs.length) (hw : w.heap[L.blk]? = some (.cells c e fr)) (hs : w'.heap.size = w.heap.size)
  (ho : ∀ r, r ≠ L.blk → w'.heap[r]? = w.heap[r]?) (hn : w'.heap[L.blk]? = some (.cells c' e fr)) (hcs : c'.size = c.size)
  (hrel : LRel ρ cs' ((c'.toList.drop L.d).take cs'.length)) (hrest : Same w w') : Post P n0 lim ρ H w ρ (H.set b (.cells cs')) w' := by
 have hH' := Heap.cells_eq.1 hH
 refine hr.turn hl hb hρ hH' (by simp) (by omega) (fun r _ h => ho r h) ⟨?_, fun _ _ h => by simp at h, fun _ h => by simp at h⟩ hrest
 intro cs1 h1
 simp at h1; subst h1
 obtain ⟨c0, ⟨t0, fr0, q1, q2, q3⟩, q4, q5⟩ := hr.row b L cs hρ hH'
 rw [hw] at q1; simp at q1; obtain ⟨rfl, rfl, rfl⟩ := q1
 exact ⟨c', ⟨e, fr, hn, by omega, by rw [hcs]; exact q3⟩, by omega, hrel⟩
theorem Rel.grow (hr : Rel P n0 ρ H w) (hlim : lim ≤ H.next) (hf : ρ H.next = none) (L : Loc) (x : Blk) (h1 : w.heap.size ≤ L.blk) (h2 : L.blk < w'.heap.size)
  (hold : ∀ r, r < w.heap.size → w'.heap[r]? = w.heap[r]?) (hn : Turned P n0 (upd ρ H.next L) w' H.next L x) (hrest : Same w w') :
  Post P n0 lim ρ H w (upd ρ H.next L) (H.push x) w' := by
 have hext := ext_upd (ρ := ρ) L hf
 refine ⟨⟨?_, ?_, ?_, ?_, ?_⟩, hext, ?_, fun r h1 _ => hold r h1, by omega, ?_, by rw [Heap.next_push]; omega, hrest⟩
 ·intro b L1 cs1 e1 e2
  by_cases hx : b = H.next
  ·subst hx
   rw [upd_same] at e1
   rw [Heap.get_push_new] at e2
   simp at e1 e2
   subst e1
   exact hn.row _ e2
  ·rw [upd_other _ _ hx] at e1
   rw [Heap.get_push_old _ _ _ hx] at e2
   obtain ⟨c0, ⟨t0, fr0, q1, q2, q3⟩, q4, q5⟩ := hr.row b L1 cs1 e1 e2
   exact ⟨c0, ⟨t0, fr0, by rw [hold _ (hr.dom _ _ e1)]; exact q1, q2, q3⟩, q4, q5.ext hext⟩
 ·intro b L1 es cl e1 e2
  by_cases hx : b = H.next
  ·subst hx
   rw [upd_same] at e1
   rw [Heap.get_push_new] at e2
   simp at e1 e2
   subst e1
   exact hn.map _ _ e2
  ·rw [upd_other _ _ hx] at e1
   rw [Heap.get_push_old _ _ _ hx] at e2
   obtain ⟨es', q1, q2⟩ := hr.map b L1 es cl e1 e2
   exact ⟨es', by rw [hold _ (hr.dom _ _ e1)]; exact q1, q2.ext hext⟩
 ·intro b L1 r e1 e2
  by_cases hx : b = H.next
  ·subst hx
   rw [upd_same] at e1
   rw [Heap.get_push_new] at e2
   simp at e1 e2
   subst e1
   exact hn.loop _ e2
  ·rw [upd_other _ _ hx] at e1
   rw [Heap.get_push_old _ _ _ hx] at e2
   obtain ⟨r', q1, q2⟩ := hr.loop b L1 r e1 e2
   exact ⟨r', by rw [hold _ (hr.dom _ _ e1)]; exact q1, q2.ext hext⟩
 ·intro b L1 e1
  by_cases hx : b = H.next
  ·subst hx; rw [upd_same] at e1; simp at e1; subst e1; exact h2
  ·rw [upd_other _ _ hx] at e1; have := hr.dom b L1 e1; omega
 ·intro b1 b2 L1 L2 g1 g2 g3 g4 g5 g6 g7 g8
  by_cases k1 : b1 = H.next
  ·subst k1
   rw [upd_same] at g3; simp at g3; subst g3
   rw [upd_other _ _ (Ne.symm g2)] at g4
   have := hr.dom _ _ g4; omega
  ·rw [upd_other _ _ k1] at g3
   rw [Heap.get_push_old _ _ _ k1] at g5 g7
   by_cases k2 : b2 = H.next
   ·subst k2
    rw [upd_same] at g4; simp at g4; subst g4
    have := hr.dom _ _ g3; omega
   ·rw [upd_other _ _ k2] at g4
    rw [Heap.get_push_old _ _ _ k2] at g6 g8
    exact hr.excl b1 b2 L1 L2 g1 g2 g3 g4 g5 g6 g7 g8
 ·intro b L1 e1 e2
  by_cases hx : b = H.next
  ·subst hx; rw [upd_same] at e2; simp at e2; subst e2
   exact ⟨Nat.le_refl _, by rw [Heap.next_push]; omega, .inl h1⟩
  ·rw [upd_other _ _ hx, e1] at e2; simp at e2
 ·intro b hb
  exact Heap.get_push_old _ _ _ (by omega)
theorem Rel.alloc (hr : Rel P n0 ρ H w) (hlim : lim ≤ H.next) (hf : ρ H.next = none) (cs : List AVal) (c : Array Value) (e : TypeId) (fr : Nat × Nat) (hlen : cs.length ≤ c.size)
  (hc : LRel ρ cs (c.toList.take cs.length)) (hfr : ∀ i, i < c.size → ¬ (fr.1 ≤ i ∧ i < fr.2)) (hw' : w'.heap = w.heap.push (.cells c e fr)) (hrest : Same w w') :
  Post P n0 lim ρ H w (upd ρ H.next ⟨w.heap.size, 0, c.size⟩) (H.push (.cells cs)) w' := by
 have hext := ext_upd (ρ := ρ) ⟨w.heap.size, 0, c.size⟩ hf
 have hold : ∀ r, r < w.heap.size → w'.heap[r]? = w.heap[r]? := by
  intro r hr'; rw [hw', Array.getElem?_push]; rw [if_neg (by omega)]
 have hnew : w'.heap[w.heap.size]? = some (.cells c e fr) := by rw [hw', Array.getElem?_push]; simp
 have hsz : w'.heap.size = w.heap.size + 1 := by rw [hw']; simp
 refine hr.grow hlim hf ⟨w.heap.size, 0, c.size⟩ _ (Nat.le_refl _) (by simp only; omega) hold ⟨?_, fun _ _ h => by simp at h, fun _ h => by simp at h⟩ hrest
 intro cs1 h1
 simp at h1; subst h1
 exact ⟨c, ⟨e, fr, hnew, rfl, fun _ => hfr⟩, by simpa using hlen, by simpa using hc.ext hext⟩
theorem Rel.kill (hr : Rel P n0 ρ H w) {b : Nat} {cs : List AVal} (hb : lim ≤ b) (hH : H.cells b = some cs) : Post P n0 lim ρ H w ρ (H.set b .dead) w := by
 have hH' := Heap.cells_eq.1 hH
 have hlt := Heap.get_lt hH'
 have hget : ∀ b' x, (H.set b .dead).get b' = some x → x ≠ .dead → b' ≠ b ∧ H.get b' = some x := by
  intro b' x h1 h2
  by_cases hx : b' = b
  ·subst hx; rw [Heap.get_set_same _ _ _ hlt] at h1; simp at h1; exact absurd h1.symm h2
  ·rw [Heap.get_set_other _ _ _ _ hx] at h1; exact ⟨hx, h1⟩
 have hlive : ∀ b', ((H.set b .dead).get b').isSome → (H.set b .dead).get b' ≠ some .dead → (H.get b').isSome ∧ H.get b' ≠ some .dead := by
  intro b' h1 h2
  obtain ⟨x, hx⟩ := Option.isSome_iff_exists.1 h1
  obtain ⟨_, h3⟩ := hget b' x hx (by rintro rfl; exact h2 hx)
  rw [h3]; rw [hx] at h2; exact ⟨rfl, h2⟩
 refine ⟨⟨?_, ?_, ?_, hr.dom, ?_⟩, .refl ρ, fun b L e e' => by rw [e] at e'; simp at e', fun r _ _ => rfl, Nat.le_refl _, ?_, Nat.le_refl _, .refl w⟩
 ·intro b1 L1 cs1 e1 e2
  exact hr.row b1 L1 cs1 e1 (hget b1 _ e2 (by simp)).2
 ·intro b1 L1 es cl e1 e2
  exact hr.map b1 L1 es cl e1 (hget b1 _ e2 (by simp)).2
 ·intro b1 L1 r e1 e2
  exact hr.loop b1 L1 r e1 (hget b1 _ e2 (by simp)).2
 ·intro b1 b2 L1 L2 g1 g2 g3 g4 g5 g6 g7 g8
  exact hr.excl b1 b2 L1 L2 g1 g2 g3 g4 (hlive b1 g5 g7).1 (hlive b2 g6 g8).1 (hlive b1 g5 g7).2 (hlive b2 g6 g8).2
 ·intro b1 hb1
  exact Heap.get_set_other _ _ _ _ (by omega)
theorem Rel.regrow (hr : Rel P n0 ρ H w) (hlim : lim ≤ H.next) (hf : ρ H.next = none) {b o : Nat} {L : Loc} {cs cs' : List AVal} {c c' : Array Value} {e : TypeId} {fr : Nat × Nat} (hl : n0 ≤ lim) (hb : lim ≤ b)
  (hρ : ρ b = some L) (hH : H.cells b = some cs) (hw : w.heap[L.blk]? = some (.cells c e fr)) (hs : w'.heap.size = w.heap.size)
  (ho : ∀ r, r ≠ L.blk → w'.heap[r]? = w.heap[r]?) (hn : w'.heap[L.blk]? = some (.cells c' e fr)) (hcs : c'.size = c.size) (hle : L.d + o + cs'.length ≤ c.size)
  (hrel : LRel ρ cs' ((c'.toList.drop (L.d + o)).take cs'.length)) (hrest : Same w w') :
  Post P n0 lim ρ H w (upd ρ H.next ⟨L.blk, L.d + o, L.csz⟩) ((H.set b .dead).push (.cells cs')) w' := by
 have hH' := Heap.cells_eq.1 hH
 have hlt := Heap.get_lt hH'
 have hext := ext_upd (ρ := ρ) ⟨L.blk, L.d + o, L.csz⟩ hf
 have hnx : (H.set b .dead).next = H.next := rfl
 have hnew : ((H.set b .dead).push (.cells cs')).get H.next = some (.cells cs') := Heap.get_push_new (H.set b .dead) _
 have hget : ∀ b', b' ≠ H.next → b' ≠ b → ((H.set b .dead).push (.cells cs')).get b' = H.get b' := by
  intro b' h1 h2
  rw [Heap.get_push_old _ _ _ (by rw [hnx]; exact h1), Heap.get_set_other _ _ _ _ h2]
 have hdead : ((H.set b .dead).push (.cells cs')).get b = some .dead := by
  rw [Heap.get_push_old _ _ _ (by rw [hnx]; omega), Heap.get_set_same _ _ _ hlt]
 have hother : ∀ b1 L1 x, b1 ≠ b → ρ b1 = some L1 → H.get b1 = some x → x ≠ .dead → L.blk ≠ L1.blk := by
  intro b1 L1 x h1 h2 h3 h4
  exact hr.excl b b1 L L1 (by omega) (Ne.symm h1) hρ h2 (by rw [hH']; rfl) (by rw [h3]; rfl) (by rw [hH']; simp) (by rw [h3]; simpa using h4)
 refine ⟨⟨?_, ?_, ?_, ?_, ?_⟩, hext, ?_, ?_, by omega, ?_, by rw [Heap.next_push, hnx]; omega, hrest⟩
 ·intro b1 L1 cs1 e1 e2
  by_cases hx : b1 = H.next
  ·subst hx
   rw [upd_same] at e1; rw [hnew] at e2
   simp at e1 e2
   subst e1 e2
   obtain ⟨c0, ⟨t0, fr0, q1, q2, q3⟩, q4, q5⟩ := hr.row b L cs hρ hH'
   rw [hw] at q1; simp at q1; obtain ⟨rfl, rfl, rfl⟩ := q1
   exact ⟨c', ⟨e, fr, hn, by simp only; omega, fun _ => by rw [hcs]; exact q3 (by omega)⟩, by simp only; omega, hrel.ext hext⟩
  ·by_cases hy : b1 = b
   ·subst hy; rw [hdead] at e2; simp at e2
   ·rw [upd_other _ _ hx] at e1
    rw [hget b1 hx hy] at e2
    obtain ⟨c0, ⟨t0, fr0, q1, q2, q3⟩, q4, q5⟩ := hr.row b1 L1 cs1 e1 e2
    have hne := hother b1 L1 _ hy e1 e2 (by simp)
    exact ⟨c0, ⟨t0, fr0, by rw [ho _ (Ne.symm hne)]; exact q1, q2, q3⟩, q4, q5.ext hext⟩
 ·intro b1 L1 es cl e1 e2
  by_cases hx : b1 = H.next
  ·subst hx; rw [hnew] at e2; simp at e2
  ·by_cases hy : b1 = b
   ·subst hy; rw [hdead] at e2; simp at e2
   ·rw [upd_other _ _ hx] at e1
    rw [hget b1 hx hy] at e2
    obtain ⟨es', q1, q2⟩ := hr.map b1 L1 es cl e1 e2
    have hne := hother b1 L1 _ hy e1 e2 (by simp)
    exact ⟨es', by rw [ho _ (Ne.symm hne)]; exact q1, q2.ext hext⟩
 ·intro b1 L1 r e1 e2
  by_cases hx : b1 = H.next
  ·subst hx; rw [hnew] at e2; simp at e2
  ·by_cases hy : b1 = b
   ·subst hy; rw [hdead] at e2; simp at e2
   ·rw [upd_other _ _ hx] at e1
    rw [hget b1 hx hy] at e2
    obtain ⟨r', q1, q2⟩ := hr.loop b1 L1 r e1 e2
    have hne := hother b1 L1 _ hy e1 e2 (by simp)
    exact ⟨r', by rw [ho _ (Ne.symm hne)]; exact q1, q2.ext hext⟩
 ·intro b1 L1 e1
  rw [hs]
  by_cases hx : b1 = H.next
  ·subst hx; rw [upd_same] at e1; simp at e1; subst e1; exact hr.dom b L hρ
  ·rw [upd_other _ _ hx] at e1; exact hr.dom b1 L1 e1
 ·intro b1 b2 L1 L2 g1 g2 g3 g4 g5 g6 g7 g8
  by_cases h1 : b1 = H.next
  ·subst h1
   rw [upd_same] at g3; simp at g3; subst g3
   rw [upd_other _ _ (Ne.symm g2)] at g4
   by_cases hy : b2 = b
   ·subst hy; exact absurd hdead g8
   ·rw [hget b2 (Ne.symm g2) hy] at g6 g8
    obtain ⟨x, hx⟩ := Option.isSome_iff_exists.1 g6
    exact hother b2 L2 x hy g4 hx (by rintro rfl; exact g8 hx)
  ·rw [upd_other _ _ h1] at g3
   by_cases hy : b1 = b
   ·subst hy; exact absurd hdead g7
   ·rw [hget b1 h1 hy] at g5 g7
    by_cases h2 : b2 = H.next
    ·subst h2
     rw [upd_same] at g4; simp at g4; subst g4
     obtain ⟨x, hx⟩ := Option.isSome_iff_exists.1 g5
     exact Ne.symm (hother b1 L1 x hy g3 hx (by rintro rfl; exact g7 hx))
    ·rw [upd_other _ _ h2] at g4
     by_cases hz : b2 = b
     ·subst hz; exact absurd hdead g8
     ·rw [hget b2 h2 hz] at g6 g8
      exact hr.excl b1 b2 L1 L2 g1 g2 g3 g4 g5 g6 g7 g8
 ·intro b1 L1 e1 e2
  by_cases hx : b1 = H.next
  ·subst hx; rw [upd_same] at e2; simp at e2; subst e2
   exact ⟨Nat.le_refl _, by rw [Heap.next_push, hnx]; omega, .inr ⟨b, L, hb, hlt, hρ, rfl⟩⟩
  ·rw [upd_other _ _ hx, e1] at e2; simp at e2
 ·intro r _ hn'
  exact ho r (Ne.symm (hn' b L hb hlt hρ))
 ·intro b1 hb1
  exact hget b1 (by omega) (by omega)
end
end Go.Ahs
