/- One operation, whatever is drawn. -/
import Derived.Test.YtnlimogbokkfpaaGreatChsP2
set_option linter.unusedSimpArgs false
set_option linter.unusedVariables false
namespace Go.Ahs
theorem filter_erase_same {α : Type} (p : α → Bool) : ∀ (l : List α) (j : Nat) (x : α), l[j]? = some x → p x = false → (l.eraseIdx j).filter p = l.filter p
 | [], j, x, h, _ => by simp at h
 | y :: l, 0, x, h, hx => by
  simp at h; subst h
  rw [List.eraseIdx_cons_zero, List.filter_cons_of_neg (by simp [hx])]
 | y :: l, j + 1, x, h, hx => by
  rw [List.eraseIdx_cons_succ, List.filter_cons, List.filter_cons, filter_erase_same p l j x (by simpa using h) hx]
section
variable {P : Program} {B n0 lim0 lim s0 : Nat} {R : Caller} {RP : CallerP} {ρe : Mp} {He : Heap} {we : World} {s : PSt} {ρ : Mp} {a : Act} {w : World} {H H' : Heap}
theorem delete_run (hr : Rel P n0 ρ H w) (hl : n0 ≤ lim) {t kt e ty : TypeId} {argTypes : Array TypeId} (h0 : argTypes[0]? = some t) (ht : P.underlying t = some (.map kt e)) {g : Bool} {ls : List Leaf} (hk : keyT P kt = some (g, ls)) {b : Nat} {k : AVal} {m' k' : Value}
  (hm : VRel ρ (.map (some b)) m') (hkk : VRel ρ k k') (h : amapDelete lim H g ls (.map (some b)) k = some H') : ∃ L es clock es2, ρ b = some L ∧ w.heap[L.blk]? = some (.map es clock) ∧ keyEq g ls k k = some true ∧
   (Builtin.delete_ argTypes ty #[m', k']).run P w = .ok (.tuple #[]) (w.putObj L.blk (.map es2 clock)) ∧ Post P n0 lim ρ H w ρ H' (w.putObj L.blk (.map es2 clock)) ∧
   (es2 = es ∨ ∃ j ej, es.toList[j]? = some ej ∧ VRel ρ k ej.key ∧ es2.toList = es.toList.eraseIdx j) := by
 simp only [amapDelete] at h
 split at h
 case h_2 => simp at h
 rename_i es0 clock hg
 split at h
 case isFalse => simp at h
 rename_i hc
 obtain ⟨hlb, hok⟩ := hc
 simp at h
 obtain ⟨ok1, ok2⟩ := keyOK_inv hok
 cases hm with | map hρ =>
 rename_i L
 obtain ⟨es', hw, hmok⟩ := hr.map b L es0 clock hρ hg
 obtain ⟨l, hp, hrel⟩ := hmok.perm
 have hf := findKey_sim hk hkk w (fun e he => ok2 e (hp.mem_iff.1 he)) hrel
 have hck := key_check hk ok1 hkk es'.isEmpty w
 have hlt := (Array.getElem?_eq_some_iff.1 hw).1
 have turned : ∀ (es2 : List (AVal × AVal)) (clock2 : Clk) (es2' : Array MapEntry), MOK ρ es2 clock2 es2'.toList →
   Post P n0 lim ρ H w ρ (H.set b (.map es2 clock2)) (w.putObj L.blk (.map es2' clock2.n)) := by
  intro es2 clock2 es2' hm2
  refine hr.turn hl hlb hρ hg (by simp) (by simp) (fun r _ hne => World.putObj_heap_other hne) ⟨fun _ h => by simp at h, fun es3 c3 h => ?_, fun _ h => by simp at h⟩ ⟨rfl, rfl, rfl⟩
  simp at h
  obtain ⟨rfl, rfl⟩ := h
  exact ⟨es2', World.putObj_heap_same hlt, hm2⟩
 subst h
 rcases find_perm hmok.keys hp ok2 with ⟨f1, f2, f3, f4⟩ | ⟨j, vj, f1, f2, f3, f4, f5⟩
 ·rw [f1] at hf
  have hd : mdel g ls k es0 = es0 := by
   unfold mdel
   exact List.filter_eq_self.2 fun e he => by rw [f4 e he]; rfl
  rw [hd]
  refine ⟨L, es', clock.n, es', hρ, hw, ok1, ?_, turned _ _ _ hmok, .inl rfl⟩
  simp only [Builtin.delete_, h0, List.getElem?_toArray, List.getElem?_cons_zero, List.getElem?_cons_succ, Sem.run_bind, run_und ht, Result.andThen_ok, Go.MapKept.run_getObj_map hw, hck, hf, Option.bind_none, run_setObj' hw, Sem.run_pure]
 ·obtain ⟨ej, g1, g2, g3⟩ := hrel.get f2
  rw [f1, Option.bind_some, g1, Option.map_some] at hf
  have hj : j < es'.size := by
   rcases Nat.lt_or_ge j es'.size with h | h
   ·exact h
   ·rw [List.getElem?_eq_none (by simpa using h)] at g1; simp at g1
  have he : (es'.eraseIdxIfInBounds j).toList = es'.toList.eraseIdx j := by simp [Array.eraseIdxIfInBounds, hj]
  refine ⟨L, es', clock.n, es'.eraseIdxIfInBounds j, hρ, hw, ok1, ?_, turned _ _ _ ?_, .inr ⟨j, ej, g1, g2, he⟩⟩
  ·simp only [Builtin.delete_, h0, List.getElem?_toArray, List.getElem?_cons_zero, List.getElem?_cons_succ, Sem.run_bind, run_und ht, Result.andThen_ok, Go.MapKept.run_getObj_map hw, hck, hf, run_setObj' hw, Sem.run_pure]
  ·rw [he]
   exact MOK.del (es' := []) hmok hp hrel ok1 f2 f5
theorem StP.deleted (h : StP P B n0 lim0 lim s0 ρe He we s ρ a w) (hf : ∀ b, He.next ≤ b → b < B → ρe b = none) {it : ItA} (hit : s.it = some it) {b : Nat} (hb : it.m = some b) {g : Bool} {ls : List Leaf} {k : AVal} (hleft : ∀ e ∈ it.left, isKey g ls k e = false)
  {L : Loc} {es es2 : Array MapEntry} {clock : Nat} (hL : ρ b = some L) (hw : w.heap[L.blk]? = some (.map es clock)) (hok : keyEq g ls k k = some true) (hp : Post P n0 lim0 ρ s.H w ρ H' (w.putObj L.blk (.map es2 clock)))
  (hes : es2 = es ∨ ∃ j ej, es.toList[j]? = some ej ∧ VRel ρ k ej.key ∧ es2.toList = es.toList.eraseIdx j) {T : List AVal} {a' : Act} (ht : LRel ρ T a'.tmps.toList) (hd : a'.defers = a.defers) (hB : H'.next ≤ B) :
  StP P B n0 lim0 lim s0 ρe He we ⟨T, H', some { it with cur := none }⟩ ρ a' (w.putObj L.blk (.map es2 clock)) := by
 have hlt := (Array.getElem?_eq_some_iff.1 hw).1
 have hi := h.it
 rw [hit] at hi
 obtain ⟨i1, i2, i3, i4⟩ := hi
 rw [hb] at i4
 obtain ⟨L', since, seen, es', g1, g2, g3, g4, g5, g6, ⟨l, g7, g8⟩, _⟩ := i4
 rw [hL] at g1; simp at g1; subst g1
 rw [hw] at g4; simp at g4
 obtain ⟨rfl, rfl⟩ := g4
 have hne : it.r ≠ L.blk := by
  intro e
  rw [e, hw] at g3; simp at g3
 have hsub : es2.toList.Sublist es.toList := by
  rcases hes with rfl | ⟨j, ej, _, _, q3⟩
  ·exact .refl _
  ·rw [q3]; exact List.eraseIdx_sublist _ _
 have hleq : (leftOf es2 seen).toList = (leftOf es seen).toList := by
  rcases hes with rfl | ⟨j, ej, q1, q2, q3⟩
  ·rfl
  ·have hseen : (!seen.contains ej.born) = false := by
    cases hc : seen.contains ej.born with
    | true => rfl
    | false =>
     exfalso
     have hmem : ej ∈ (leftOf es seen).toList := by
      unfold leftOf
      rw [Array.toList_filter, List.mem_filter]
      exact ⟨List.mem_of_getElem? q1, by simp only [hc]; rfl⟩
     obtain ⟨i, hil, hie⟩ := List.getElem_of_mem hmem
     have hi1 : (leftOf es seen).toList[i]? = some ej := by rw [List.getElem?_eq_getElem hil, hie]
     have hil' : i < l.length := by rw [g8.1]; exact hil
     obtain ⟨⟨k1, v1⟩, hl1⟩ : ∃ p, l[i] = p := ⟨_, rfl⟩
     have hl1' : l[i]? = some (k1, v1) := by rw [List.getElem?_eq_getElem hil', hl1]
     have hv := (g8.2 i k1 v1 ej hl1' hi1).1
     have : k1 = k := key_back hok q2 hv
     subst this
     have hin : (k1, v1) ∈ it.left := g7.mem_iff.1 (by rw [← hl1]; exact List.getElem_mem hil')
     have := hleft _ hin
     simp [isKey, hok] at this
   unfold leftOf
   rw [Array.toList_filter, Array.toList_filter, q3]
   exact filter_erase_same _ _ _ _ q1 (by simpa using hseen)
 refine ⟨h.post.trans (Nat.le_refl _) (fun b g g2 => hf b g (Nat.lt_of_lt_of_le g2 hB)) hp, ?_, ht, ?_, by rw [hd]; exact h.marks.post hp⟩
 ·refine ⟨hp.rel, h.inv.l0, h.inv.l1, Nat.le_trans h.inv.l2 hp.next, fun b hb hB => h.inv.fresh b (Nat.le_trans hp.next hb) hB, fun b L q1 q2 q3 => ?_, h.inv.old, Nat.le_trans h.inv.size hp.size⟩
  rcases Nat.lt_or_ge b s.H.next with q | q
  ·exact h.inv.young b L q1 q q3
  ·rw [h.inv.fresh b q (Nat.lt_of_lt_of_le q2 hB)] at q3; simp at q3
 ·refine ⟨i1, Nat.lt_of_lt_of_le i2 hp.size, i3, ?_⟩
  simp only [hb]
  refine ⟨L, clock, seen, es2, hL, g2, by rw [World.putObj_heap_other hne]; exact g3, World.putObj_heap_same hlt, (hsub.map _).nodup g5, fun e he => g6 e (hsub.subset he), ⟨l, g7, ?_⟩, fun k v e => by simp at e⟩
  rw [hleq]; exact g8
theorem unguarded {F : Fence} {m : Nat} {ops : Array Oper} {i : Nat} {o : Oper} {ao : AOper} (hi : ops[i]? = some o) (hc : compOper P ops o = some ao) (hg : ao.guard = none) (ht : LRel ρ s.tmps a.tmps.toList) {K' : Act → World → Prop} {Q : Exit → Act → World → Prop} :
  compOp P o.type o.op = some ao.op ∧ ao.dst = o.dst ∧ (o.wpIn F m P a w K' Q → wpOpIn F m P ops Q i K' a w) := by
 unfold compOper at hc
 split at hc <;> simp at hc
 rename_i op g hop hg'
 subst hc
 refine ⟨hop, rfl, fun h => ?_⟩
 simp only at hg
 subst hg
 have hwr := wanted_rel ht hg'
 unfold wpOpIn
 simp only [hi, hwr, wantedA, if_true]
 exact h
theorem value_wp {F : Fence} {m : Nat} (hF : Wide F) {o : Oper} {aop : Aop} (hc : compOp P o.type o.op = some aop) {v' : Value} {w' : World} (hrun : (Go.execOp a.eval o).run P w = .ok (.value v') w') {K' : Act → World → Prop} {Q : Exit → Act → World → Prop}
  (hK : K' (a.put o.dst v') w') : o.wpIn F m P a w K' Q := by
 refine ⟨fun f _ => hF.fn f, ?_⟩
 rw [Oper.semAt_eq _ _ _ (not_defer hc), hrun]
 exact hK
theorem call_wp {F : Fence} {m : Nat} (hF : Wide F) (hRP : CallSimP P RP) (hf : ∀ b, He.next ≤ b → b < B → ρe b = none) (h : StP P B n0 lim0 lim s0 ρe He we s ρ a w) {o : Oper} {aop : Aop} (hc : compOp P o.type o.op = some aop) {f : FuncId} {args : List AVal}
  (hop : (∃ xs, aop = .call f xs ∧ args = xs.map (St.ev s.tmps)) ∨ (∃ x xs first captured, aop = .callv x xs ∧ St.ev s.tmps x = .fn f first captured ∧ args = first ++ xs.map (St.ev s.tmps) ++ captured)) {K : PSt → Prop}
  (hit : s.it = none) (hcall : RP lim0 lim (.fn f) args s.H fun v H' => K ⟨putT s.tmps o.dst v, H', none⟩) {K' : Act → World → Prop} {Q : Exit → Act → World → Prop}
  (hKB : ∀ s', s.H.next ≤ s'.H.next → K s' → s'.H.next ≤ B) (hK : ∀ s' ρ' a' w', K s' → StP P B n0 lim0 lim s0 ρe He we s' ρ' a' w' → K' a' w') : o.wpIn F m P a w K' Q := by
 have he := ev_rel h.tmps
 obtain ⟨⟨fn, hfn, hb, hn⟩, hcalls⟩ := hRP lim0 lim (.fn f) args s.H _ hcall f rfl
 have hb' : fn.body.isNone = false := by cases h0 : fn.body <;> simp [h0] at hb ⊢
 have hisCall : aop.isCall = true := by rcases hop with ⟨_, rfl, _⟩ | ⟨_, _, _, _, rfl, _⟩ <;> rfl
 refine ⟨fun f _ => hF.fn f, ?_⟩
 rw [Oper.semAt_eq _ _ _ (not_defer hc)]
 obtain ⟨dst, op, type, pos, after, guard⟩ := o
 simp only at hc
 have main : ∀ (c : Call) (as' : Array Value), op = .call c → LRel ρ args as'.toList →
   (do let d ← resolve a.eval c type; invoke d.target d.args : Sem Next).run P w = (callFunc f as').run P w → Oper.uponIn F m P ⟨dst, op, type, pos, after, guard⟩ a K' Q ((Go.execOp a.eval ⟨dst, op, type, pos, after, guard⟩).run P w) := by
  rintro c as' rfl hargs hrun
  simp only [Go.execOp]
  rw [hrun]
  have : (callFunc f as').run P w = .ok (.enter f as') w := by
   simp only [callFunc, Sem.run_bind, run_program, Result.andThen_ok, hfn, hn, hb', Bool.false_eq_true, if_false, Sem.run_pure]
  rw [this]
  simp only [Oper.uponIn]
  refine ⟨hF.deep, hF.calls ((hcalls B n0 s0 ρ w as' (fun v H' hle hk => hKB ⟨_, H', none⟩ hle hk) h.inv hargs).mono ?_)⟩
  rintro e w' ⟨v', ρ', v, H1, rfl, hk, hv, hp, hinv⟩
  refine hK _ ρ' _ w' hk ⟨h.post.trans (Nat.le_refl _) (fun b g g2 => hf b g (Nat.lt_of_lt_of_le g2 (hKB _ hp.next hk))) hp, hinv, put_rel_tmps (h.tmps.ext hp.ext) hv _, trivial, ?_⟩
  rw [defers_put]
  exact h.marks.post hp
 have fnCase : ∀ (c : Call) (x : Operand) (y : Opd) (ys : List Opd) (first captured : List AVal), op = .call c → c.callee = .value x → copd x = some y → allSome copd c.args.toList = some ys →
   St.ev s.tmps y = .fn f first captured → args = first ++ ys.map (St.ev s.tmps) ++ captured → Oper.uponIn F m P ⟨dst, op, type, pos, after, guard⟩ a K' Q ((Go.execOp a.eval ⟨dst, op, type, pos, after, guard⟩).run P w) := by
  rintro c x y ys first captured hopc hcal hx hys hfn' hargs'
  have hfr' := he _ _ hx
  rw [hfn'] at hfr'
  obtain ⟨as, bs, e1, l1, l2⟩ := hfr'.fn_inv
  have hargs := allSome_map_rel he hys
  refine main c (as ++ c.args.map a.eval ++ bs) hopc (by rw [hargs']; simpa using LRel.append (LRel.append l1 hargs) l2) ?_
  simp only [resolve, hcal, Deferred.ofValue, e1, Sem.run_bind, Sem.run_pure, Result.andThen_ok, invoke]
 obtain ⟨c, rfl⟩ := comp_call hc hisCall
 simp only [compOp] at hc
 split at hc
 ·rename_i ys hys
  split at hc
  ·rename_i f' hcal
   simp at hc; subst hc
   rcases hop with ⟨xs, e1, e2⟩ | ⟨x, xs, first, captured, e1, _⟩
   ·simp at e1
    obtain ⟨rfl, rfl⟩ := e1
    exact fnCase c (.func f') (.val (.fn f' [] [])) ys [] [] rfl hcal rfl hys rfl (by simpa using e2)
   ·simp at e1
  ·rename_i x hnf hcal
   simp at hc
   obtain ⟨y, hy, rfl⟩ := hc
   rcases hop with ⟨xs, e1, e2⟩ | ⟨x', xs, first, captured, e1, e2, e3⟩
   ·simp at e1
   ·simp at e1
    obtain ⟨rfl, rfl⟩ := e1
    exact fnCase c x y ys first captured rfl hcal hy hys e2 e3
  ·rename_i b hb2
   rw [builtin_noCall hc] at hisCall; simp at hisCall
  ·simp at hc
   obtain ⟨_, _, rfl⟩ := hc
   rcases hop with ⟨xs, e1, e2⟩ | ⟨x', xs, first, captured, e1, _⟩ <;> simp at e1
 ·simp at hc
end
end Go.Ahs
