/- Code and functions, whatever is drawn; what is known of a function's outcome, out of that. -/
import Derived.Test.YtnlimogbokkfpaaGreatChsP4
set_option linter.unusedSimpArgs false
set_option linter.unusedVariables false
namespace Go.Ahs
section
variable {P : Program} {B n0 lim0 lim s0 : Nat} {R : Caller} {RP : CallerP} {ρe : Mp} {He : Heap} {we : World} {s : PSt} {ρ : Mp} {a : Act} {w : World} {H H' : Heap}
theorem opsP_plain {F : Fence} {m : Nat} (hF : Wide F) (hR : CallSim P R) (hRk : Keeps R) (hRP : CallSimP P RP) (hRl : LiveP RP) (hf : ∀ b, He.next ≤ b → b < B → ρe b = none) {ops : Array Oper} {l : List AOper} (hc : allSome (compOper P ops) ops.toList = some l) {K : PSt → Prop} {Q : Exit → Act → World → Prop}
  (hKB : ∀ s', (lim ≤ s'.H.next ∧ He.next ≤ s'.H.next) → K s' → s'.H.next ≤ B) (hQ : ∀ s' ρ' a' w', K s' → StP P B n0 lim0 lim s0 ρe He we s' ρ' a' w' → Q .normal a' w') : ∀ (k i : Nat) (s : PSt) (ρ : Mp) (a : Act) (w : World), i + k = ops.size → opsP R RP lim0 lim (l.drop i) s K → StP P B n0 lim0 lim s0 ρe He we s ρ a w →
  wpOpsIn F m P ops Q (List.range' i k) a w
 | 0, i, s, ρ, a, w, hik, h, hst => by
  have : l.drop i = [] := List.drop_eq_nil_of_le (by rw [allSome_length hc]; simp; omega)
  rw [this] at h
  exact hQ s ρ a w h hst
 | k + 1, i, s, ρ, a, w, hik, h, hst => by
  have hlen : l.length = ops.size := by rw [allSome_length hc]; simp
  have hi : i < ops.size := by omega
  have hil : i < l.length := by omega
  rw [List.drop_eq_getElem_cons hil] at h
  unfold opsP at h
  obtain ⟨ao, q1, q2⟩ := allSome_get hc i ops[i] (by simp [hi])
  rw [List.getElem?_eq_getElem hil] at q1; simp at q1
  rw [q1] at h
  rw [List.range'_succ, wpOpsIn_cons]
  refine opP_sim hF hR hRk hRP hf hst (by simp [hi]) q2 h ?_ ?_
  ·intro s' hle hk
   obtain ⟨s2, h2, n2⟩ := opsP_live hRk hRl _ (Nat.le_trans hst.inv.l2 hle) hk
   exact Nat.le_trans n2 (hKB s2 ⟨Nat.le_trans (Nat.le_trans hst.inv.l2 hle) n2, Nat.le_trans (Nat.le_trans hst.post.next hle) n2⟩ h2)
  ·intro s' ρ' a' w' hk hst'
   exact opsP_plain hF hR hRk hRP hRl hf hc hKB hQ k (i + 1) s' ρ' a' w' (by omega) hk hst'
theorem opsP_settled : ∀ (l : List AOper) (s : PSt) (K : PSt → Prop), (l.all fun o => o.op.settled) = true → opsP R RP lim0 lim l s K → ∃ s1, execOps R lim l ⟨s.tmps, s.H⟩ = some s1 ∧ K ⟨s1.tmps, s1.H, s.it⟩
 | [], s, K, _, h => ⟨⟨s.tmps, s.H⟩, rfl, h⟩
 | o :: os, s, K, hs, h => by
  rw [List.all_cons, Bool.and_eq_true] at hs
  unfold opsP at h
  have hd : detP R lim o s fun s => opsP R RP lim0 lim os s K := by
   unfold opP at h
   have h1 := hs.1
   split at h
   all_goals first
    | exact h
    | (rename_i hop; rw [hop] at h1; simp [Aop.settled] at h1)
  obtain ⟨s1, e1, h2⟩ := hd
  obtain ⟨s2, e2, h3⟩ := opsP_settled os _ K hs.2 h2
  refine ⟨s2, ?_, h3⟩
  unfold execOps
  rw [e1]; exact e2
theorem regionP_sim {F : Fence} {m : Nat} (hF : Wide F) (hP : P.follows .mixedOrders = true) (hR : CallSim P R) (hRk : Keeps R) (hRP : CallSimP P RP) (hRl : LiveP RP) (hf : ∀ b, He.next ≤ b → b < B → ρe b = none) {id : Nat} {ops : Array Oper} {draw : Bool} {l : List AOper} (hc : compRegion P ops draw = some l) (hset : settledR P ops draw = true)
  (hst : StP P B n0 lim0 lim s0 ρe He we s ρ a w) {K : PSt → Prop} (h : (∃ s1, execOps R lim l ⟨s.tmps, s.H⟩ = some s1 ∧ K ⟨s1.tmps, s1.H, s.it⟩) ∨ (hard l = false ∧ opsP R RP lim0 lim l s K)) {Q : Exit → Act → World → Prop}
  (hKB : ∀ s', (lim ≤ s'.H.next ∧ He.next ≤ s'.H.next) → K s' → s'.H.next ≤ B) (hQ : ∀ s' ρ' a' w', K s' → StP P B n0 lim0 lim s0 ρe He we s' ρ' a' w' → Q .normal a' w') : (Code.region id ops draw).wpIn F m P Q a w := by
 have det : (∃ s1, execOps R lim l ⟨s.tmps, s.H⟩ = some s1 ∧ K ⟨s1.tmps, s1.H, s.it⟩) → (Code.region id ops draw).wpIn F m P Q a w := by
  rintro ⟨s1, h1, hk⟩
  have hn1 := (execOps_next hRk l ⟨s.tmps, s.H⟩ s1 hst.inv.l2 h1).1
  have hB : s1.H.next ≤ B := hKB ⟨s1.tmps, s1.H, s.it⟩ ⟨Nat.le_trans hst.inv.l2 hn1, Nat.le_trans hst.post.next hn1⟩ hk
  refine region_sim hF hP hR hRk (Nat.le_trans hst.inv.l0 hst.inv.l1) hc h1 hst.inv.l2 (fun b g g2 => hst.inv.fresh b g (Nat.lt_of_lt_of_le g2 hB)) hst.inv.rel hst.tmps ?_
  intro ρ' a' w' hp ht hd
  exact hQ _ ρ' a' w' hk (hst.det hf hp ht hd hB)
 rcases h with h | ⟨hh, h⟩
 ·exact det h
 cases draw with
 | true =>
  refine det (opsP_settled l s K ?_ h)
  unfold settledR at hset
  rw [hc] at hset
  simpa [hh] using hset
 | false =>
  have hc' : allSome (compOper P ops) ops.toList = some l := by
   unfold compRegion at hc
   split at hc
   ·rename_i l' hl'
    simp at hc; subst hc; exact hl'
   ·simp at hc
  refine wpIn_region ?_
  rw [List.range_eq_range']
  exact opsP_plain hF hR hRk hRP hRl hf hc' hKB hQ ops.size 0 s ρ a w (by omega) (by simpa using h) hst
def CodeSimP (m : Nat) (P : Program) (B n0 lim0 lim s0 : Nat) (ρe : Mp) (He : Heap) (we : World) (c : Code) (f : PSt → KP → Prop) : Prop :=
 ∀ (s : PSt) (K : KP), f s K → (∀ ex s', (lim ≤ s'.H.next ∧ He.next ≤ s'.H.next) → K ex s' → s'.H.next ≤ B) → ∀ (ρ : Mp) (a : Act) (w : World), StP P B n0 lim0 lim s0 ρe He we s ρ a w → ∀ (Q : Exit → Act → World → Prop),
  (∀ ex s' ρ' a' w', K ex s' → StP P B n0 lim0 lim s0 ρe He we s' ρ' a' w' → Q (toExit ex) a' w') → c.wpIn Fence.wide m P Q a w
theorem loopP_sim {m : Nat} {c : Code} {body : PSt → KP → Prop} (hb : CodeSimP m P B n0 lim0 lim s0 ρe He we c body) (hbl : ∀ s K, lim ≤ s.H.next → body s K → ∃ ex s', K ex s' ∧ s.H.next ≤ s'.H.next) : ∀ (n : Nat) (s : PSt) (K : KP), loopP body n s K → (∀ ex s', (lim ≤ s'.H.next ∧ He.next ≤ s'.H.next) → K ex s' → s'.H.next ≤ B) → ∀ (ρ : Mp) (a : Act) (w : World), StP P B n0 lim0 lim s0 ρe He we s ρ a w →
  ∀ (Q : Exit → Act → World → Prop), (∀ ex s' ρ' a' w', K ex s' → StP P B n0 lim0 lim s0 ρe He we s' ρ' a' w' → Q (toExit ex) a' w') → Code.roundsIn Fence.wide m P c Q n a w
 | 0, s, K, h => h.elim
 | n + 1, s, K, h => by
  intro hKB ρ a w hst Q hQ
  unfold loopP at h
  rw [roundsIn_succ]
  refine hb s _ h ?_ ρ a w hst _ ?_
  ·intro ex s' hl hk
   cases ex with
   | norm =>
    obtain ⟨ex2, s2, h2, n2⟩ := loopP_live hbl n s' K hl.1 hk
    exact Nat.le_trans n2 (hKB ex2 s2 ⟨Nat.le_trans hl.1 n2, Nat.le_trans hl.2 n2⟩ h2)
   | exit id => exact hKB _ s' hl hk
   | ret => exact hKB _ s' hl hk
  intro ex s' ρ' a' w' hk hst'
  cases ex with
  | norm => exact loopP_sim hb hbl n s' K hk hKB ρ' a' w' hst' Q hQ
  | exit id => exact hQ _ s' ρ' a' w' hk hst'
  | ret => exact hQ _ s' ρ' a' w' hk hst'
theorem execP_sim {m : Nat} (hP : P.follows .mixedOrders = true) (hR : CallSim P R) (hRk : Keeps R) (hRP : CallSimP P RP) (hRl : LiveP RP) (hf : ∀ b, He.next ≤ b → b < B → ρe b = none) (n : Nat) : ∀ (c : Code) (ac : ACode), compCode P c = some ac → settledC P c = true →
  CodeSimP m P B n0 lim0 lim s0 ρe He we c (execP R RP lim0 lim n ac)
 | .skip, ac, hc, _ => by
  simp [compCode] at hc; subst hc
  intro s K h hKB ρ a w hst Q hQ
  exact wpIn_skip (hQ .norm s ρ a w h hst)
 | .region id ops draw, ac, hc, hset => by
  simp only [compCode, Option.map_eq_some_iff] at hc
  obtain ⟨l, hl', rfl⟩ := hc
  intro s K h hKB ρ a w hst Q hQ
  exact regionP_sim .wide hP hR hRk hRP hRl hf hl' hset hst h (hKB .norm) fun s' ρ' a' w' hk hst' => hQ .norm s' ρ' a' w' hk hst'
 | .seq x y, ac, hc, hset => by
  simp only [compCode] at hc
  split at hc <;> simp at hc
  rename_i x' y' hx hy
  subst hc
  simp only [settledC, Bool.and_eq_true] at hset
  intro s K h hKB ρ a w hst Q hQ
  simp only [execP] at h
  refine wpIn_seq ?_
  refine execP_sim hP hR hRk hRP hRl hf n x x' hx hset.1 s _ h ?_ ρ a w hst _ ?_
  ·intro ex s' hl hk
   cases ex with
   | norm =>
    obtain ⟨ex2, s2, h2, n2⟩ := execP_live hRk hRl n y' s' K hl.1 hk
    exact Nat.le_trans n2 (hKB ex2 s2 ⟨Nat.le_trans hl.1 n2, Nat.le_trans hl.2 n2⟩ h2)
   | exit id => exact hKB _ s' hl hk
   | ret => exact hKB _ s' hl hk
  intro ex s' ρ' a' w' hk hst'
  cases ex with
  | norm => exact execP_sim hP hR hRk hRP hRl hf n y y' hy hset.2 s' K hk hKB ρ' a' w' hst' Q hQ
  | exit id => exact hQ _ s' ρ' a' w' hk hst'
  | ret => exact hQ _ s' ρ' a' w' hk hst'
 | .cond c x y, ac, hc, hset => by
  simp only [compCode] at hc
  split at hc <;> simp at hc
  rename_i c' x' y' hcc hx hy
  subst hc
  simp only [settledC, Bool.and_eq_true] at hset
  intro s K h hKB ρ a w hst Q hQ
  simp only [execP] at h
  obtain ⟨t, hev, h1, h2⟩ := h
  have hv := ev_rel hst.tmps _ _ hcc
  rw [hev] at hv
  have hv' := (bool_rel hv t).1 rfl
  refine wpIn_cond hv' ?_
  cases t with
  | true => exact execP_sim hP hR hRk hRP hRl hf n x x' hx hset.1 s K (h1 rfl) hKB ρ a w hst Q hQ
  | false => exact execP_sim hP hR hRk hRP hRl hf n y y' hy hset.2 s K (h2 rfl) hKB ρ a w hst Q hQ
 | .block id c, ac, hc, hset => by
  simp only [compCode, Option.map_eq_some_iff] at hc
  obtain ⟨c', hc', rfl⟩ := hc
  simp only [settledC] at hset
  intro s K h hKB ρ a w hst Q hQ
  simp only [execP] at h
  refine wpIn_block ?_
  refine execP_sim hP hR hRk hRP hRl hf n c c' hc' hset s _ h ?_ ρ a w hst _ ?_
  ·intro ex s' hl hk
   cases ex with
   | norm => exact hKB _ s' hl hk
   | exit id' =>
    simp only at hk
    split at hk
    ·exact hKB _ s' hl hk
    ·exact hKB _ s' hl hk
   | ret => exact hKB _ s' hl hk
  intro ex s' ρ' a' w' hk hst'
  cases ex with
  | norm => exact hQ _ s' ρ' a' w' hk hst'
  | exit id' =>
   simp only at hk
   show (if id' = id then Q .normal a' w' else Q (.exit id') a' w')
   by_cases hid : id' = id
   ·rw [if_pos hid] at hk ⊢; exact hQ .norm s' ρ' a' w' hk hst'
   ·rw [if_neg hid] at hk ⊢; exact hQ (.exit id') s' ρ' a' w' hk hst'
  | ret => exact hQ _ s' ρ' a' w' hk hst'
 | .loop c, ac, hc, hset => by
  simp only [compCode, Option.map_eq_some_iff] at hc
  obtain ⟨c', hc', rfl⟩ := hc
  simp only [settledC] at hset
  intro s K h hKB ρ a w hst Q hQ
  simp only [execP] at h
  refine wpIn_loop_rounds n ?_
  exact loopP_sim (execP_sim hP hR hRk hRP hRl hf n c c' hc' hset) (fun s K => execP_live hRk hRl n c' s K) n s K h hKB ρ a w hst Q hQ
 | .exit id, ac, hc, _ => by
  simp [compCode] at hc; subst hc
  intro s K h hKB ρ a w hst Q hQ
  exact wpIn_exit (hQ (.exit id) s ρ a w h hst)
 | .label l, ac, hc, _ => by
  simp [compCode] at hc; subst hc
  intro s K h hKB ρ a w hst Q hQ
  exact wpIn_label (hQ .norm s ρ a w h hst)
 | .ret, ac, hc, _ => by
  simp [compCode] at hc; subst hc
  intro s K h hKB ρ a w hst Q hQ
  exact wpIn_ret (hQ .ret s ρ a w h hst)
 | .rangeFunc g ps asg body, ac, hc, _ => by
  simp only [compCode] at hc
  split at hc <;> simp at hc
  rename_i g' asg' body' hg hasg hbody
  subst hc
  intro s K h hKB ρ a w hst Q hQ
  simp only [execP] at h
  obtain ⟨hpp, hit, h⟩ := h
  simp only [Bool.and_eq_true] at hpp
  split at h
  case h_2 => exact h.elim
  rename_i f first captured hgv
  have hr := hst.inv.rel
  have ht := hst.tmps
  have hgr := ev_rel ht _ _ hg
  rw [hgv] at hgr
  obtain ⟨as, bs, e1, l1, l2⟩ := hgr.fn_inv
  have hKB2 : ∀ (v : AVal) (H' : Heap), (s.H.push (.loop ⟨.ready, none, s.tmps, ps.toList, asg', body'⟩)).next ≤ H'.next → (match H'.get s.H.next with
   | some (.loop ⟨.ready, none, _, _, _, _⟩) => K .norm ⟨s.tmps, H'.set s.H.next .dead, none⟩
   | some (.loop ⟨.done, some e, _, _, _, _⟩) => K e ⟨s.tmps, H'.set s.H.next .dead, none⟩
   | _ => False) → H'.next ≤ B := by
   intro v H' hle hk
   rw [Heap.next_push] at hle
   have hl := hst.inv.l2
   have hl2 := hst.post.next
   split at hk
   ·exact hKB _ ⟨s.tmps, H'.set s.H.next .dead, none⟩ ⟨by simp only [Heap.next_set]; omega, by simp only [Heap.next_set]; omega⟩ hk
   ·exact hKB _ ⟨s.tmps, H'.set s.H.next .dead, none⟩ ⟨by simp only [Heap.next_set]; omega, by simp only [Heap.next_set]; omega⟩ hk
   ·exact hk.elim
  obtain ⟨v0, H0, hk0, hn0⟩ := hRl _ _ _ _ _ _ (by rw [Heap.next_push]; have := hst.inv.l2; omega) h
  have hB0 : s.H.next < B := by
   have := hKB2 v0 H0 hn0 hk0
   rw [Heap.next_push] at hn0
   omega
  have hf0 : ρ s.H.next = none := hst.inv.fresh _ (Nat.le_refl _) hB0
  refine wpIn_rangeFunc fun fnn _ => ?_
  let rec1 : Loop := { state := .ready, pending := none, fn := fnn, tmps := a.tmps, params := ps, assign := asg, body := body, defers := w.heap.size }
  let w1 : World := (w.alloc (.deferred (some []))).alloc (.loop rec1)
  let L1 : Loc := ⟨w.heap.size + 1, 0, 0⟩
  have hw1size : w1.heap.size = w.heap.size + 2 := by simp [w1]
  have hw1rec : w1.heap[w.heap.size + 1]? = some (.loop rec1) := by
   have := World.alloc_heap_new (w.alloc (.deferred (some []))) (.loop rec1)
   rw [World.size_alloc] at this; exact this
  have hw1def : w1.heap[w.heap.size]? = some (.deferred (some [])) := by
   show ((w.heap.push _).push _)[w.heap.size]? = _
   rw [Array.getElem?_push, if_neg (by simp), Array.getElem?_push, if_pos rfl]
  have hw1old : ∀ r, r < w.heap.size → w1.heap[r]? = w.heap[r]? := fun r hr' => by
   show ((w.heap.push _).push _)[r]? = _
   rw [Array.getElem?_push, if_neg (by simp; omega), Array.getElem?_push, if_neg (by omega)]
  have hext := ext_upd (ρ := ρ) L1 hf0
  have hp1 : Post P n0 lim ρ s.H w (upd ρ s.H.next L1) (s.H.push (.loop ⟨.ready, none, s.tmps, ps.toList, asg', body'⟩)) w1 := by
   refine hr.grow hst.inv.l2 hf0 L1 _ (by simp [L1]) (by simp [L1, hw1size]) hw1old ⟨fun _ h => by simp at h, fun _ _ h => by simp at h, fun r h => ?_⟩ ⟨rfl, rfl, rfl⟩
   simp at h; subst h
   exact ⟨rec1, hw1rec, ⟨rfl, rfl, rfl, ht.ext hext, hasg, hbody, hpp⟩⟩
  have hinv1 := hst.inv.post hp1 (by rw [Heap.next_push]; omega)
  obtain ⟨⟨fn0, hfn0, hb0, hnm0⟩, hcs⟩ := hRP lim0 lim (.fn f) _ _ _ h f rfl
  have hargs : LRel (upd ρ s.H.next L1) (first ++ [.yl s.H.next] ++ captured) (as ++ #[Value.func (.yield (w.heap.size + 1)) #[] #[]] ++ bs).toList := by
   simp only [Array.toList_append]
   exact LRel.append (LRel.append (l1.ext hext) (LRel.cons (.yl (L := L1) (upd_same _ _ _)) (LRel.nil _))) (l2.ext hext)
  have hcalled := hcs B n0 s0 _ w1 _ hKB2 hinv1 hargs
  refine ⟨w.heap.size + 1, [{ target := .collected w.heap.size, args := #[] }], w1, { target := .fn (.func f) bs, args := as ++ #[Value.func (.yield (w.heap.size + 1)) #[] #[]] }, w1, f, as ++ #[Value.func (.yield (w.heap.size + 1)) #[] #[]] ++ bs, w1,
   run_enterLoop_outer fnn a.tmps ps asg body, ?_, fun _ _ => trivial, ?_, fun hd => by simp [Fence.wide] at hd, ?_⟩
  ·have e2 : Act.eval a g = .func (.func f) as bs := e1
   have e3 : Act.eval a (.const (.func (.yield (w.heap.size + 1)) #[] #[])) = Value.func (.yield (w.heap.size + 1)) #[] #[] := rfl
   simp only [resolve, rangeCall, e2, Deferred.ofValue, Sem.run_pure, List.map_toArray, List.map_cons, List.map_nil, e3]
  ·have hb' : fn0.body.isNone = false := by cases h0 : fn0.body <;> simp [h0] at hb0 ⊢
   simp only [invoke, callFunc, Sem.run_bind, run_program, Result.andThen_ok, hfn0, hnm0, hb', Bool.false_eq_true, if_false, Sem.run_pure]
  ·refine Wide.wide.calls (hcalled.mono ?_)
   rintro e w3 ⟨v', ρ2, v, H2, rfl, hk, hv, hp2, hinv2⟩
   have hm1 : Marks we.heap.size (upd ρ s.H.next L1) w1 ([{ target := .collected w.heap.size, args := #[] }] ++ a.defers) := by
    have hm := hst.marks
    have hmo := hm.post hp1
    refine ⟨hmo.le, fun d hd => ?_, ?_⟩
    ·simp only [List.singleton_append, List.mem_cons] at hd
     rcases hd with rfl | hd
     ·refine ⟨w.heap.size, rfl, hm.le, hw1def, fun b L e => ?_⟩
      by_cases hb : b = s.H.next
      ·subst hb; rw [upd_same] at e; simp at e; subst e; simp [L1]
      ·rw [upd_other _ _ hb] at e; have := hr.dom b L e; omega
     ·exact hmo.each d hd
    ·simp only [List.singleton_append, List.pairwise_cons]
     refine ⟨fun d hd => ?_, hm.apart⟩
     obtain ⟨r, g1, _, g3, _⟩ := hm.each d hd
     have := heap_lt g3
     rw [g1]; simp; omega
   have hm2 := hm1.post hp2
   have hL2 : ρ2 s.H.next = some L1 := hp2.ext _ _ (upd_same _ _ _)
   have hlt2 : s.H.next < H2.next := by have := hp2.next; rw [Heap.next_push] at this; omega
   have hB2 : H2.next ≤ B := hKB2 v H2 hp2.next hk
   have hpe : Post P n0 lim0 ρe He we ρ2 H2 w3 := (hst.post.trans (Nat.le_refl _) (fun b g g2 => hf b g (by rw [Heap.next_push] at g2; omega)) (hp1.weaken hst.inv.l1)).trans (Nat.le_refl _) (fun b g g2 => hf b g (Nat.lt_of_lt_of_le g2 hB2)) hp2
   have shut : ∀ (r : LoopA), H2.get s.H.next = some (.loop r) → r.state ≠ .busy →
     ∃ (r' : Loop) (w4 : World), (Instr.endLoop (w.heap.size + 1)).run P w3 = .ok r'.pending w4 ∧ r'.pending = r.pending.map exCode ∧ ∀ (a' : Act), LRel ρ2 s.tmps a'.tmps.toList → a'.defers = [{ target := .collected w.heap.size, args := #[] }] ++ a.defers →
      StP P B n0 lim0 lim s0 ρe He we ⟨s.tmps, H2.set s.H.next .dead, none⟩ ρ2 a' w4 := by
    intro r hget hnb
    obtain ⟨r', q1, q2⟩ := hp2.rel.loop _ L1 r hL2 hget
    have hlt3 := heap_lt q1
    refine ⟨r', _, run_endLoop q1 (by rw [q2.state]; exact hnb), q2.pend, fun a' ht' hd' => ?_⟩
    have hp3 : Post P n0 lim ρ2 H2 w3 ρ2 (H2.set s.H.next .dead) (w3.putObj (w.heap.size + 1) (.loop { r' with state := .exhausted })) :=
     hp2.rel.turn (Nat.le_trans hst.inv.l0 hst.inv.l1) hst.inv.l2 hL2 hget (by simp) (by simp) (fun r _ hne => World.putObj_heap_other hne) .dead (same_putObj _ _ _)
    exact ⟨hpe.trans (Nat.le_refl _) (fun b g g2 => hf b g (by rw [Heap.next_set] at g2; omega)) (hp3.weaken hst.inv.l1), hinv2.post hp3 (by rw [Heap.next_set]; exact hB2), ht', trivial, by rw [hd']; exact hm2.post hp3⟩
   have htm : LRel ρ2 s.tmps a.tmps.toList := ht.ext (hext.trans hp2.ext)
   split at hk
   ·rename_i t0 p0 a0 c0 hget
    obtain ⟨r', w4, s1, s2, s3⟩ := shut _ hget (by simp)
    refine ⟨r'.pending, w4, s1, ?_⟩
    rw [s2]
    exact hQ .norm _ ρ2 _ w4 hk (s3 { a with defers := [{ target := .collected w.heap.size, args := #[] }] ++ a.defers } htm rfl)
   ·rename_i e0 t0 p0 a0 c0 hget
    obtain ⟨r', w4, s1, s2, s3⟩ := shut _ hget (by simp)
    refine ⟨r'.pending, w4, s1, ?_⟩
    rw [s2]
    have hq := hQ e0 _ ρ2 _ w4 hk (s3 { a with defers := [{ target := .collected w.heap.size, args := #[] }] ++ a.defers } htm rfl)
    cases e0 with
    | norm => exact wpIn_skip hq
    | exit id => exact wpIn_exit hq
    | ret => exact wpIn_ret hq
   ·exact hk.elim
 | .scope _, ac, hc, _ => by simp [compCode] at hc
 | .goto _, ac, hc, _ => by simp [compCode] at hc
 | .refuse _, ac, hc, _ => by
  simp [compCode] at hc; subst hc
  intro s K h
  exfalso
  simp [execP, opsP, opP, detP, execOps, execOp, wantedA, AOper.clear, step] at h
def DpOK (P : Program) (dp : FuncId → Option AFunc) : Prop := ∀ f af, dp f = some af → compF P f = some af ∧ ∃ fn c, P.funcs[f]? = some fn ∧ fn.body = some c ∧ settledC P c = true
theorem runP_sim {ap : FuncId → Option AFn} {dp : FuncId → Option AFunc} (hP : P.follows .mixedOrders = true) (hap : ∀ f af, ap f = some af → FnOK P f af) (hdp : DpOK P dp) : ∀ n, CallSimP P (runP ap dp n)
 | 0 => fun lim0 lim tg args H K h => h.elim
 | n + 1 => fun lim0 lim tg args H K h f htg => by
  subst htg
  unfold runP at h
  rcases h with ⟨v, H', hrun, hk⟩ | ⟨f', af, e, hdf, hfun⟩
  ·obtain ⟨hfn, hc⟩ := run_sim hP hap (n + 1) 0 lim (.fn f) args H v H' hrun
   refine ⟨hfn, fun B n0 s0 ρ w args' hKB hinv hargs => ?_⟩
   have hc' := (run_sim hP hap (n + 1) n0 lim (.fn f) args H v H' hrun).2 ρ w args' (Nat.le_trans hinv.l0 hinv.l1) hinv.l2 (fun b g g2 => hinv.fresh b g (Nat.lt_of_lt_of_le g2 (hKB v H' (run_keeps hap (n + 1) _ _ _ _ _ _ hinv.l2 hrun).1 hk))) hinv.rel hargs
   refine hc'.mono ?_
   rintro e w' ⟨v', ρ', rfl, hv, hp⟩
   exact ⟨v', ρ', v, H', rfl, hk, hv, hp.weaken hinv.l1, hinv.post hp (hKB v H' hp.next hk)⟩
  ·simp at e; subst e
   obtain ⟨hcf, fn, c, hfn, hbody, hset⟩ := hdp f af hdf
   unfold compF at hcf
   rw [hfn] at hcf
   simp only [hbody] at hcf
   split at hcf
   case h_2 => simp at hcf
   rename_i ac ars hac hars
   split at hcf <;> simp at hcf
   rename_i hname
   subst hcf
   refine ⟨⟨fn, hfn, by rw [hbody]; rfl, by simpa using hname⟩, ?_⟩
   intro B n0 s0 ρ w args' hKB hinv hargs
   refine (callsIn_wide (n := 0)).1 (callsIn_of_wp_marks hfn hbody trivial ?_)
   have hent : LRel ρ (args ++ List.replicate (fn.ntmps - args.length) und) (args' ++ Array.replicate (fn.ntmps - args'.size) undef).toList := by
    have hl : args.length = args'.size := by simpa using hargs.1
    simp only [Array.toList_append, Array.toList_replicate, hl]
    exact LRel.append hargs (LRel.replicate _ (VRel.und ρ))
   refine execP_sim hP (run_sim hP hap n) (run_keeps hap n) (runP_sim hP hap hdp n) (runP_live hap n) hinv.fresh n c ac hac hset ⟨enterF { ntmps := fn.ntmps, results := ars, body := ac } args, H, none⟩ _ hfun (fun ex s' hl hk => by
     obtain ⟨_, v, _, hkv⟩ := hk
     exact hKB v s'.H hl.2 hkv) ρ
    { tmps := args' ++ Array.replicate (fn.ntmps - args'.size) undef, defers := [] } w ⟨.refl hinv.rel, hinv, hent, trivial, ⟨Nat.le_refl _, fun d hd => by simp at hd, .nil⟩⟩ _ ?_
   intro ex s' ρ' a' w' hk hst
   obtain ⟨hne, v, hlv, hkv⟩ := hk
   have hvs : ∃ vs, resAll ⟨s'.tmps, s'.H⟩ ars = some vs ∧ oneOr vs = v := by
    unfold leaveF at hlv
    rw [Option.map_eq_some_iff] at hlv
    obtain ⟨vs, q1, q2⟩ := hlv
    simp at q2
    exact ⟨vs, q1, q2⟩
   obtain ⟨vs, hvs, rfl⟩ := hvs
   have fin : LeavesInM Fence.wide 0 P fn a'.tmps (fun e w' => ∃ v' ρ' v H', e = .returned v' ∧ K v H' ∧ VRel ρ' v v' ∧ Post P n0 lim0 ρ H w ρ' H' w' ∧ InvP P B n0 lim0 lim s0 ρ' H' w') a'.defers .returning w' := by
    refine leaves_marks a'.defers w' hst.marks fun w'' hoff => ?_
    have hp' := hoff.post hst.post
    obtain ⟨vs', q1, q2⟩ := results_sim (P := P) hars (s := ⟨s'.tmps, s'.H⟩) hp'.rel hst.tmps hvs
    refine ⟨_, ?_, _, ρ', _, s'.H, rfl, hkv, oneOr_rel q2, hp', ⟨hp'.rel, hinv.l0, hinv.l1, hst.inv.l2, hst.inv.fresh, hst.inv.young, hst.inv.old, by rw [hoff.size]; exact hst.inv.size⟩⟩
    unfold results
    rw [Array.mapM_eq_mapM_toList]
    simp only [Sem.run_bind, Sem.run_map, Sem.run_pure]
    exact Eq.trans (congrArg (fun z => Result.andThen (Result.andThen z _) _) q1) rfl
   cases ex with
   | norm => exact fin
   | ret => exact fin
   | exit id => exact (hne id rfl).elim
def Forget (m : Nat) (H1 H' : Heap) : Prop := H1.next ≤ H'.next ∧ ∀ b, H'.get b = H1.get b ∨ (m ≤ b ∧ H'.get b = some .dead)
theorem Forget.refl (m : Nat) (H : Heap) : Forget m H H := ⟨Nat.le_refl _, fun _ => .inl rfl⟩
theorem Post.forget {ρ' : Mp} {H1 : Heap} {w' : World} (h : Post P n0 lim ρ H w ρ' H1 w') (hf : Forget H.next H1 H') (hl : lim ≤ H.next) : Post P n0 lim ρ H w ρ' H' w' := by
 obtain ⟨hn, hg⟩ := hf
 have live : ∀ b x, H'.get b = some x → x ≠ .dead → H1.get b = some x := by
  intro b x hx hd
  rcases hg b with e | ⟨_, e⟩
  ·rw [← e]; exact hx
  ·rw [e] at hx; simp at hx; exact absurd hx.symm hd
 have hr := h.rel
 refine ⟨⟨fun b L cs e e' => hr.row b L cs e (live b _ e' (by simp)), fun b L es cl e e' => hr.map b L es cl e (live b _ e' (by simp)), fun b L r e e' => hr.loop b L r e (live b _ e' (by simp)), hr.dom, ?_⟩,
  h.ext, fun b L e e' => by obtain ⟨g1, g2, g3⟩ := h.new b L e e'; exact ⟨g1, by omega, g3⟩, h.frame, h.size, fun b hb => ?_, Nat.le_trans h.next hn, h.rest⟩
 ·intro b1 b2 L1 L2 g1 g2 g3 g4 g5 g6 g7 g8
  obtain ⟨x1, hx1⟩ := Option.isSome_iff_exists.1 g5
  obtain ⟨x2, hx2⟩ := Option.isSome_iff_exists.1 g6
  have d1 : x1 ≠ .dead := fun e => g7 (by rw [hx1, e])
  have d2 : x2 ≠ .dead := fun e => g8 (by rw [hx2, e])
  have l1 := live b1 x1 hx1 d1
  have l2 := live b2 x2 hx2 d2
  exact hr.excl b1 b2 L1 L2 g1 g2 g3 g4 (by rw [l1]; rfl) (by rw [l2]; rfl) (by rw [l1]; simpa using d1) (by rw [l2]; simpa using d2)
 ·rcases hg b with e | ⟨q, _⟩
  ·rw [e]; exact h.keep b hb
  ·omega
theorem PrimOK.drawn {ap : FuncId → Option AFn} {dp : FuncId → Option AFunc} (hP : P.follows .mixedOrders = true) (hap : ∀ f af, ap f = some af → FnOK P f af) (hdp : DpOK P dp) {f : FuncId} {af : AFunc} (hf : dp f = some af) {g : Nat → List AVal → Heap → Option (AVal × Heap)}
  (keeps : ∀ lim args H v H', lim ≤ H.next → g lim args H = some (v, H') → H.next ≤ H'.next ∧ ∀ b, b < lim → H'.get b = H.get b)
  (h : ∀ lim args H v H', lim ≤ H.next → g lim args H = some (v, H') → ∃ n, runP ap dp n lim H.next (.fn f) args H fun v1 H1 => v1 = v ∧ Forget H.next H1 H') : PrimOK P f g where
 keeps := keeps
 fn := by
  obtain ⟨hcf, fn, c, hfn, hbody, hset⟩ := hdp f af hf
  unfold compF at hcf
  rw [hfn] at hcf
  simp only [hbody] at hcf
  split at hcf
  case h_2 => simp at hcf
  split at hcf <;> simp at hcf
  rename_i hname
  exact ⟨fn, hfn, by rw [hbody]; rfl, by simpa using hname⟩
 calls := fun n0 lim args H v H' hg ρ w args' hl hlim hfr hr ha => by
  obtain ⟨n, hn⟩ := h lim args H v H' hlim hg
  have hk := keeps lim args H v H' hlim hg
  have hinv : InvP P H'.next n0 lim H.next w.heap.size ρ H w := ⟨hr, hl, hlim, Nat.le_refl _, hfr, fun b L g1 g2 _ => by omega, fun b L _ e => hr.dom b L e, Nat.le_refl _⟩
  ·have hc := (runP_sim hP hap hdp n lim H.next (.fn f) args H _ hn f rfl).2 H'.next n0 w.heap.size ρ w args' (fun v1 H1 _ e => e.2.1) hinv ha
   refine hc.mono ?_
   rintro e w' ⟨v', ρ', v1, H1, rfl, ⟨rfl, hfg⟩, hv, hp, _⟩
   exact ⟨v', ρ', rfl, hv, hp.forget hfg hlim⟩
def settledB (P : Program) (f : FuncId) : Bool :=
 match P.funcs[f]? with
 | some fn => match fn.body with
  | some c => settledC P c
  | none => false
 | none => false
def AllD (P : Program) : List (Nat × AFunc) → Prop
 | [] => True
 | p :: l => (compF P p.1 = some p.2 ∧ settledB P p.1 = true) ∧ AllD P l
theorem dp_ok {P : Program} : ∀ {l : List (Nat × AFunc)}, AllD P l → DpOK P fun f => l.lookup f
 | [], _, f, af, h => by simp at h
 | p :: l, ⟨⟨h1, h2⟩, h3⟩, f, af, h => by
  replace h : List.lookup f (p :: l) = some af := h
  rw [List.lookup_cons] at h
  split at h
  ·rename_i e
   simp at h e
   subst e h
   refine ⟨h1, ?_⟩
   unfold settledB at h2
   split at h2
   ·rename_i fn hfn
    split at h2
    ·rename_i c hc
     exact ⟨fn, c, hfn, hc, h2⟩
    ·simp at h2
   ·simp at h2
  ·exact dp_ok h3 f af h
def pushDead : Nat → Heap → Heap
 | 0, H => H
 | n + 1, H => (pushDead n H).push .dead
theorem pushDead_next : ∀ (n : Nat) (H : Heap), (pushDead n H).next = H.next + n
 | 0, H => rfl
 | n + 1, H => by rw [pushDead, Heap.next_push, pushDead_next n H]; omega
theorem pushDead_old : ∀ (n : Nat) {H : Heap} {b : Nat}, b < H.next → (pushDead n H).get b = H.get b
 | 0, H, b, h => rfl
 | n + 1, H, b, h => by
  rw [pushDead, Heap.get_push_old _ _ _ (by rw [pushDead_next]; omega), pushDead_old n h]
theorem pushDead_new : ∀ (n : Nat) {H : Heap} {b : Nat}, H.next ≤ b → b < H.next + n → (pushDead n H).get b = some .dead
 | 0, H, b, h, h' => by omega
 | n + 1, H, b, h, h' => by
  rw [pushDead, Heap.get_push]
  split
  ·rfl
  ·rename_i hne
   rw [pushDead_next] at hne
   exact pushDead_new n h (by omega)
theorem forget_dead {H1 : Heap} {n : Nat} (hn : H1.next = H.next + n) (hk : ∀ b, b < H.next → H1.get b = H.get b) : Forget H.next H1 (pushDead n H) := by
 refine ⟨by rw [pushDead_next, hn]; exact Nat.le_refl _, fun b => ?_⟩
 rcases Nat.lt_or_ge b H.next with g | g
 ·exact .inl (by rw [pushDead_old n g, hk b g])
 ·rcases Nat.lt_or_ge b (H.next + n) with g2 | g2
  ·exact .inr ⟨g, pushDead_new n g g2⟩
  ·exact .inl (by rw [Heap.get_ge _ _ (by rw [pushDead_next]; exact g2), Heap.get_ge _ _ (by omega)])
end
end Go.Ahs
