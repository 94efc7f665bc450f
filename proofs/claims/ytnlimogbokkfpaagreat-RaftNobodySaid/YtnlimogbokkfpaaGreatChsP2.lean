/- What holds of drawn code holds of the model's. -/
import Derived.Test.YtnlimogbokkfpaaGreatChsP1
set_option linter.unusedSimpArgs false
set_option linter.unusedVariables false
namespace Go.Ahs
section
variable {P : Program} {B n0 lim0 lim s0 : Nat} {R : Caller} {RP : CallerP} {ρe : Mp} {He : Heap} {we : World} {s : PSt} {ρ : Mp} {a : Act} {w : World}
theorem StP.det (h : StP P B n0 lim0 lim s0 ρe He we s ρ a w) (hf : ∀ b, He.next ≤ b → b < B → ρe b = none) {ρ' : Mp} {H' : Heap} {w' : World} {T : List AVal} {a' : Act} (hp : Post P n0 lim ρ s.H w ρ' H' w') (ht : LRel ρ' T a'.tmps.toList) (hd : a'.defers = a.defers) (hB : H'.next ≤ B) :
  StP P B n0 lim0 lim s0 ρe He we ⟨T, H', s.it⟩ ρ' a' w' :=
 ⟨h.post.trans (Nat.le_refl _) (fun b g g2 => hf b g (Nat.lt_of_lt_of_le g2 hB)) (hp.weaken h.inv.l1), h.inv.post hp hB, ht, h.it.post h.inv hp, by rw [hd]; exact h.marks.post hp⟩
theorem Post.alloc' (hr : Rel P n0 ρ s.H w) (o : Obj) : Post P n0 lim ρ s.H w ρ s.H (w.alloc o) := by
 have hold : ∀ r, r < w.heap.size → (w.alloc o).heap[r]? = w.heap[r]? := fun r hr' => by
  show (w.heap.push _)[r]? = _
  rw [Array.getElem?_push, if_neg (by omega)]
 have hsz : (w.alloc o).heap.size = w.heap.size + 1 := World.size_alloc _ _
 refine ⟨⟨fun b L cs e e' => ?_, fun b L es cl e e' => ?_, fun b L r e e' => ?_, fun b L e => by have := hr.dom b L e; omega, hr.excl⟩, .refl ρ, fun b L e e' => by rw [e] at e'; simp at e', fun r h1 _ => hold r h1, by omega, fun _ _ => rfl, Nat.le_refl _, ⟨rfl, rfl, rfl⟩⟩
 ·obtain ⟨c, ⟨t, fr, q1, q2, q3⟩, q4, q5⟩ := hr.row b L cs e e'
  exact ⟨c, ⟨t, fr, by rw [hold _ (hr.dom b L e)]; exact q1, q2, q3⟩, q4, q5⟩
 ·obtain ⟨es', q1, q2⟩ := hr.map b L es cl e e'
  exact ⟨es', by rw [hold _ (hr.dom b L e)]; exact q1, q2⟩
 ·obtain ⟨r', q1, q2⟩ := hr.loop b L r e e'
  exact ⟨r', by rw [hold _ (hr.dom b L e)]; exact q1, q2⟩
theorem StP.turn (h : StP P B n0 lim0 lim s0 ρe He we s ρ a w) {r : Nat} {w' : World} {it' : Option ItA} {T : List AVal} {a' : Act} (hr : we.heap.size ≤ r) (hmine : ∀ b L, ρ b = some L → L.blk ≠ r) (hsz : w'.heap.size = w.heap.size) (ho : ∀ k, k ≠ r → w'.heap[k]? = w.heap[k]?)
  (hsame : Same w w') (hnd : w.heap[r]? ≠ some (.deferred (some []))) (hit : OItRel we.heap.size s0 ρ w' it') (ht : LRel ρ T a'.tmps.toList) (hd : a'.defers = a.defers) : StP P B n0 lim0 lim s0 ρe He we ⟨T, s.H, it'⟩ ρ a' w' := by
 have hm : ∀ b L, ρ b = some L → w'.heap[L.blk]? = w.heap[L.blk]? := fun b L e => ho _ (hmine b L e)
 have hrel : Rel P n0 ρ s.H w' := by
  have hr := h.inv.rel
  refine ⟨fun b L cs e e' => ?_, fun b L es cl e e' => ?_, fun b L r e e' => ?_, fun b L e => by rw [hsz]; exact hr.dom b L e, hr.excl⟩
  ·obtain ⟨c, ⟨t, fr, q1, q2, q3⟩, q4, q5⟩ := hr.row b L cs e e'
   exact ⟨c, ⟨t, fr, by rw [hm b L e]; exact q1, q2, q3⟩, q4, q5⟩
  ·obtain ⟨es', q1, q2⟩ := hr.map b L es cl e e'
   exact ⟨es', by rw [hm b L e]; exact q1, q2⟩
  ·obtain ⟨r', q1, q2⟩ := hr.loop b L r e e'
   exact ⟨r', by rw [hm b L e]; exact q1, q2⟩
 have hp := h.post
 refine ⟨⟨hrel, hp.ext, hp.new, fun k h1 h2 => (ho k (by omega)).trans (hp.frame k h1 h2), by rw [hsz]; exact hp.size, hp.keep, hp.next, hp.rest.trans hsame⟩,
  ⟨hrel, h.inv.l0, h.inv.l1, h.inv.l2, h.inv.fresh, h.inv.young, h.inv.old, by rw [hsz]; exact h.inv.size⟩, ht, hit, ?_⟩
 rw [hd]
 refine ⟨by rw [hsz]; exact h.marks.le, fun d hd' => ?_, h.marks.apart⟩
 obtain ⟨k, g1, g2, g3, g4⟩ := h.marks.each d hd'
 refine ⟨k, g1, g2, ?_, g4⟩
 rw [ho k (fun e => hnd (by rw [← e]; exact g3))]
 exact g3
theorem perm_filter_born {es : List MapEntry} (hn : (es.map (·.born)).Nodup) {j : Nat} {e : MapEntry} (hj : es[j]? = some e) : es.filter (fun x => !(x.born == e.born)) = es.eraseIdx j := by
 refine filter_erase _ es j e hj (by simp) fun i y hi hne => ?_
 have hil : i < es.length := by
  rcases Nat.lt_or_ge i es.length with h | h
  ·exact h
  ·rw [List.getElem?_eq_none h] at hi; simp at hi
 have hjl : j < es.length := by
  rcases Nat.lt_or_ge j es.length with h | h
  ·exact h
  ·rw [List.getElem?_eq_none h] at hj; simp at hj
 rw [List.getElem?_eq_getElem hil] at hi
 rw [List.getElem?_eq_getElem hjl] at hj
 simp at hi hj
 have hp := List.pairwise_iff_getElem.1 hn
 have hne' : y.born ≠ e.born := by
  intro e3
  have e4 : (es.map (·.born))[i]'(by simpa using hil) = (es.map (·.born))[j]'(by simpa using hjl) := by
   rw [List.getElem_map, List.getElem_map, hi, hj, e3]
  rcases Nat.lt_or_gt_of_ne hne with g | g
  ·exact hp i j (by simpa using hil) (by simpa using hjl) g e4
  ·exact hp j i (by simpa using hjl) (by simpa using hil) g e4.symm
 simp [hne']
theorem ERel.erase {l : List (AVal × AVal)} {es : List MapEntry} (h : ERel ρ l es) (j : Nat) : ERel ρ (l.eraseIdx j) (es.eraseIdx j) := by
 refine ⟨by rw [List.length_eraseIdx, List.length_eraseIdx, h.1], fun i k v e h1 h2 => ?_⟩
 rw [List.getElem?_eraseIdx] at h1 h2
 split at h1
 ·rename_i hi; rw [if_pos hi] at h2; exact h.2 i k v e h1 h2
 ·rename_i hi; rw [if_neg hi] at h2; exact h.2 (i + 1) k v e h1 h2
theorem cons_erase_perm {α : Type} : ∀ {l : List α} {j : Nat} {x : α}, l[j]? = some x → (x :: l.eraseIdx j).Perm l
 | [], j, x, h => by simp at h
 | y :: l, 0, x, h => by simp at h; subst h; exact .refl _
 | y :: l, j + 1, x, h => by
  rw [List.eraseIdx_cons_succ]
  exact (List.Perm.swap y x _).trans ((cons_erase_perm (by simpa using h)).cons y)
theorem next_sim (h : StP P B n0 lim0 lim s0 ρe He we s ρ a w) {it : ItA} (hit : s.it = some it) (ty : TypeId) {K : AVal → ItA → Prop} (hK : it.step K) :
  ∃ v v' it' w', (Instr.next (.pointer (some ⟨it.r, 0, none⟩)) false ty).run P w = .ok v' w' ∧ VRel ρ v v' ∧ K v it' ∧
   ∀ (T : List AVal) (a' : Act), LRel ρ T a'.tmps.toList → a'.defers = a.defers → StP P B n0 lim0 lim s0 ρe He we ⟨T, s.H, some it'⟩ ρ a' w' := by
 have hi := h.it
 rw [hit] at hi
 obtain ⟨i1, i2, i3, i4⟩ := hi
 cases hm : it.m with
 | none =>
  rw [hm] at i4
  obtain ⟨i5, _, i6⟩ := i4
  refine ⟨.tup [.bool false], .tuple #[.bool false], it, w, ?_, VRel.tup_of (LRel.cons (.bool false) (LRel.nil ρ)), hK.1 i5, fun T a' ht hd => ?_⟩
  ·simp [Instr.next, getObj, Sem.run, i6, Result.andThen]
  ·refine ⟨h.post, h.inv, ht, ?_, by rw [hd]; exact h.marks⟩
   rw [← hit]; exact h.it
 | some m =>
  rw [hm] at i4
  obtain ⟨L, since, seen, es, g1, g2, g3, g4, g5, g6, ⟨l, g7, g8⟩, g9⟩ := i4
  rcases run_next_at (P := P) w ty it.r L.blk since since seen es since g3 g4 g6 (Nat.le_refl _) with ⟨q1, q2⟩ | ⟨e, he, w1, hw1, q2⟩
  ·have : it.left = [] := by
    have hl : l = [] := List.eq_nil_of_length_eq_zero (by rw [g8.1]; simpa using q1)
    subst hl
    exact g7.symm.eq_nil
   refine ⟨.tup [.bool false], .tuple #[.bool false], it, w, q2, VRel.tup_of (LRel.cons (.bool false) (LRel.nil ρ)), hK.1 this, fun T a' ht hd => ?_⟩
   refine ⟨h.post, h.inv, ht, ?_, by rw [hd]; exact h.marks⟩
   rw [← hit]; exact h.it
  ·obtain ⟨j, hj, hje⟩ := List.getElem_of_mem he
   have hj1 : (leftOf es seen).toList[j]? = some e := by rw [List.getElem?_eq_getElem hj, hje]
   have hjl : j < l.length := by rw [g8.1]; exact hj
   obtain ⟨⟨k, v⟩, hlj⟩ : ∃ p, l[j] = p := ⟨_, rfl⟩
   have hlj' : l[j]? = some (k, v) := by rw [List.getElem?_eq_getElem hjl, hlj]
   obtain ⟨v1', v2⟩ := g8.2 j k v e hlj' hj1
   have hperm : it.left.Perm ((k, v) :: l.eraseIdx j) := by
    refine g7.symm.trans ?_
    exact (cons_erase_perm hlj').symm
   have hheap : w1.heap = w.heap := by rcases hw1 with rfl | rfl <;> rfl
   have hsame : Same w w1 := by rcases hw1 with rfl | rfl <;> exact ⟨rfl, rfl, rfl⟩
   refine ⟨.tup [.bool true, k, v], _, { it with left := l.eraseIdx j, cur := some (k, v) }, _, q2, VRel.tup_of (LRel.cons (.bool true) (LRel.cons v1' (LRel.cons v2 (LRel.nil ρ)))), hK.2 k v _ hperm, fun T a' ht hd => ?_⟩
   have hlt : it.r < w.heap.size := i2
   have hrl : it.r ≠ L.blk := by
    intro e
    rw [e, g4] at g3
    simp at g3
   refine h.turn (r := it.r) (w' := ChangeMaps.setBlock w1 it.r (.mapIter (some L.blk) since (seen.push e.born) since)) i1 i3 ?_ ?_ ?_ ?_ ?_ ht hd
   ·simp [ChangeMaps.setBlock, hheap]
   ·intro k hk
    simp [ChangeMaps.setBlock, hheap, Ne.symm hk]
   ·exact hsame.trans ⟨rfl, rfl, rfl⟩
   ·rw [g3]; simp
   ·refine ⟨i1, by simp [ChangeMaps.setBlock, hheap]; exact hlt, i3, ?_⟩
    simp only [hm]
    refine ⟨L, since, seen.push e.born, es, g1, g2, by simp [ChangeMaps.setBlock, hheap, hlt], by simp [ChangeMaps.setBlock, hheap, hrl]; simpa using g4, g5, g6, ⟨l.eraseIdx j, .refl _, ?_⟩, fun k1 v1 e1 => ?_⟩
    case refine_2 =>
     simp at e1
     obtain ⟨rfl, rfl⟩ := e1
     refine ⟨seen, e, rfl, ?_, v1', v2⟩
     have := he
     unfold leftOf at this
     rw [Array.toList_filter, List.mem_filter] at this
     exact this.1
    rw [leftOf_push]
    have hn : ((leftOf es seen).toList.map (·.born)).Nodup := by
     unfold leftOf
     rw [Array.toList_filter]
     exact ((List.filter_sublist (l := es.toList)).map _).nodup g5
    rw [perm_filter_born hn hj1]
    exact g8.erase j
end
end Go.Ahs
