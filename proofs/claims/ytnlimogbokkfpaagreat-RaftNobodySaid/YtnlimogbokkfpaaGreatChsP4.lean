/- Regions, code, functions, calls, whatever is drawn. -/
import Derived.Test.YtnlimogbokkfpaaGreatChsP3
set_option linter.unusedSimpArgs false
set_option linter.unusedVariables false
namespace Go.Ahs
section
variable {P : Program} {B n0 lim0 lim s0 : Nat} {R : Caller} {RP : CallerP} {ρe : Mp} {He : Heap} {we : World} {s : PSt} {ρ : Mp} {a : Act} {w : World} {H H' : Heap}
def LiveP (RP : CallerP) : Prop := ∀ lim0 lim tg args H K, lim ≤ H.next → RP lim0 lim tg args H K → ∃ v H', K v H' ∧ H.next ≤ H'.next
theorem execOp_next (hRk : Keeps R) {o : AOper} {s s1 : St} (hl : lim ≤ s.H.next) (h : execOp R lim o s = some s1) : s.H.next ≤ s1.H.next := by
 obtain ⟨v, hs, _⟩ := execOp_inv h
 exact (hs.keep hRk hl).1
theorem opP_live (hRk : Keeps R) (hRP : LiveP RP) {o : AOper} {s : PSt} {K : PSt → Prop} (hl : lim ≤ s.H.next) (h : opP R RP lim0 lim o s K) : ∃ s', K s' ∧ s.H.next ≤ s'.H.next := by
 have det : detP R lim o s K → ∃ s', K s' ∧ s.H.next ≤ s'.H.next := by
  rintro ⟨s1, h1, hk⟩
  exact ⟨_, hk, execOp_next hRk (s := ⟨s.tmps, s.H⟩) hl h1⟩
 have call : ∀ {f args}, callP RP lim0 lim o f args s K → ∃ s', K s' ∧ s.H.next ≤ s'.H.next := by
  rintro f args ⟨_, _, hc⟩
  obtain ⟨v, H', hk, hn⟩ := hRP _ _ _ _ _ _ hl hc
  exact ⟨_, hk, hn⟩
 unfold opP at h
 split at h
 ·obtain ⟨_, _, h⟩ := h
  split at h
  ·exact ⟨_, h 0, Nat.le_refl _⟩
  ·obtain ⟨_, _, _, _, h⟩ := h
   exact ⟨_, h 0, Nat.le_refl _⟩
  ·exact h.elim
 ·obtain ⟨_, it, _, _, h1, h2⟩ := h
  cases hleft : it.left with
  | nil => exact ⟨_, h1 hleft, Nat.le_refl _⟩
  | cons e rest =>
   obtain ⟨k, v⟩ := e
   exact ⟨_, h2 k v rest (by rw [hleft]), Nat.le_refl _⟩
 ·obtain ⟨_, it, k, v, _, _, _, hk⟩ := h
  exact ⟨_, hk, Nat.le_refl _⟩
 ·rcases h with h | ⟨_, it, b, H', _, _, _, hd, _, hk⟩
  ·exact det h
  ·refine ⟨_, hk, ?_⟩
   have : ∀ {lim : Nat}, s.H.next ≤ H'.next := by
    intro _
    unfold amapDelete at hd
    split at hd
    ·split at hd <;> simp at hd
     subst hd; exact Nat.le_refl _
    ·split at hd
     ·split at hd <;> simp at hd
      subst hd; exact Nat.le_refl _
     ·simp at hd
    ·simp at hd
   exact this (lim := 0)
 ·rcases h with h | h
  ·exact det h
  ·exact call h
 ·rcases h with h | h
  ·exact det h
  ·split at h
   ·exact call h
   ·exact h.elim
 ·exact det h
theorem opsP_live (hRk : Keeps R) (hRP : LiveP RP) : ∀ (l : List AOper) {s : PSt} {K : PSt → Prop}, lim ≤ s.H.next → opsP R RP lim0 lim l s K → ∃ s', K s' ∧ s.H.next ≤ s'.H.next
 | [], s, K, _, h => ⟨s, h, Nat.le_refl _⟩
 | o :: os, s, K, hl, h => by
  obtain ⟨s1, h1, n1⟩ := opP_live hRk hRP hl h
  obtain ⟨s2, h2, n2⟩ := opsP_live hRk hRP os (Nat.le_trans hl n1) h1
  exact ⟨s2, h2, Nat.le_trans n1 n2⟩
theorem loopP_live {body : PSt → KP → Prop} (hb : ∀ s K, lim ≤ s.H.next → body s K → ∃ ex s', K ex s' ∧ s.H.next ≤ s'.H.next) : ∀ (n : Nat) (s : PSt) (K : KP), lim ≤ s.H.next → loopP body n s K → ∃ ex s', K ex s' ∧ s.H.next ≤ s'.H.next
 | 0, s, K, _, h => h.elim
 | n + 1, s, K, hl, h => by
  unfold loopP at h
  obtain ⟨ex, s1, h1, n1⟩ := hb s _ hl h
  cases ex with
  | norm =>
   obtain ⟨ex, s2, h2, n2⟩ := loopP_live hb n s1 K (Nat.le_trans hl n1) h1
   exact ⟨ex, s2, h2, Nat.le_trans n1 n2⟩
  | exit id => exact ⟨_, s1, h1, n1⟩
  | ret => exact ⟨_, s1, h1, n1⟩
theorem execP_live (hRk : Keeps R) (hRP : LiveP RP) (n : Nat) : ∀ (c : ACode) (s : PSt) (K : KP), lim ≤ s.H.next → execP R RP lim0 lim n c s K → ∃ ex s', K ex s' ∧ s.H.next ≤ s'.H.next
 | .skip, s, K, _, h => ⟨_, s, h, Nat.le_refl _⟩
 | .region ops, s, K, hl, h => by
  rcases h with ⟨s1, h1, hk⟩ | ⟨_, h⟩
  ·exact ⟨_, _, hk, (execOps_next hRk ops ⟨s.tmps, s.H⟩ s1 hl h1).1⟩
  ·obtain ⟨s', h', n'⟩ := opsP_live hRk hRP ops hl h
   exact ⟨_, s', h', n'⟩
 | .seq a b, s, K, hl, h => by
  obtain ⟨ex, s1, h1, n1⟩ := execP_live hRk hRP n a s _ hl h
  cases ex with
  | norm =>
   obtain ⟨ex, s2, h2, n2⟩ := execP_live hRk hRP n b s1 K (Nat.le_trans hl n1) h1
   exact ⟨ex, s2, h2, Nat.le_trans n1 n2⟩
  | exit id => exact ⟨_, s1, h1, n1⟩
  | ret => exact ⟨_, s1, h1, n1⟩
 | .cond c a b, s, K, hl, h => by
  obtain ⟨t, _, h1, h2⟩ := h
  cases t with
  | true => exact execP_live hRk hRP n a s K hl (h1 rfl)
  | false => exact execP_live hRk hRP n b s K hl (h2 rfl)
 | .block id c, s, K, hl, h => by
  obtain ⟨ex, s1, h1, n1⟩ := execP_live hRk hRP n c s _ hl h
  cases ex with
  | norm => exact ⟨_, s1, h1, n1⟩
  | exit i =>
   simp only at h1
   split at h1
   ·exact ⟨_, s1, h1, n1⟩
   ·exact ⟨_, s1, h1, n1⟩
  | ret => exact ⟨_, s1, h1, n1⟩
 | .loop c, s, K, hl, h => loopP_live (fun s K => execP_live hRk hRP n c s K) n s K hl h
 | .exit id, s, K, _, h => ⟨_, s, h, Nat.le_refl _⟩
 | .ret, s, K, _, h => ⟨_, s, h, Nat.le_refl _⟩
 | .ranges g ps asg body, s, K, hl, h => by
  simp only [execP] at h
  obtain ⟨_, _, h⟩ := h
  split at h
  ·obtain ⟨v, H', h1, n1⟩ := hRP _ _ _ _ _ _ (by rw [Heap.next_push]; omega) h
   rw [Heap.next_push] at n1
   split at h1
   ·exact ⟨_, _, h1, by simp only [Heap.next_set]; omega⟩
   ·exact ⟨_, _, h1, by simp only [Heap.next_set]; omega⟩
   ·exact h1.elim
  ·exact h.elim
theorem runP_live {ap : FuncId → Option AFn} {dp : FuncId → Option AFunc} (hap : ∀ f af, ap f = some af → FnOK P f af) : ∀ n, LiveP (runP ap dp n)
 | 0 => fun _ _ _ _ _ _ _ h => h.elim
 | n + 1 => fun lim0 lim tg args H K hl h => by
  rcases h with ⟨v, H', h1, hk⟩ | ⟨f, af, rfl, _, h⟩
  ·exact ⟨v, H', hk, (run_keeps hap (n + 1) _ _ _ _ _ _ hl h1).1⟩
  ·obtain ⟨ex, s', ⟨_, v, _, hk⟩, n1⟩ := execP_live (run_keeps hap n) (runP_live hap n) n _ _ _ hl h
   exact ⟨v, _, hk, n1⟩
theorem det_wp {F : Fence} {m : Nat} (hF : Wide F) (hR : CallSim P R) (hRk : Keeps R) (hf : ∀ b, He.next ≤ b → b < B → ρe b = none) (h : StP P B n0 lim0 lim s0 ρe He we s ρ a w) {ops : Array Oper} {i : Nat} {o : Oper} {ao : AOper} (hi : ops[i]? = some o) (hc : compOper P ops o = some ao)
  {K : PSt → Prop} (hop : detP R lim ao s K) {K' : Act → World → Prop} {Q : Exit → Act → World → Prop} (hKB : ∀ s', s.H.next ≤ s'.H.next → K s' → s'.H.next ≤ B) (hK : ∀ s' ρ' a' w', K s' → StP P B n0 lim0 lim s0 ρe He we s' ρ' a' w' → K' a' w') : wpOpIn F m P ops Q i K' a w := by
 obtain ⟨s1, h1, hk⟩ := hop
 have hB : s1.H.next ≤ B := hKB ⟨s1.tmps, s1.H, s.it⟩ (execOp_next hRk (s := ⟨s.tmps, s.H⟩) h.inv.l2 h1) hk
 obtain ⟨v, hs, hput, _⟩ := execOp_inv h1
 obtain ⟨hd, hb⟩ := compOper_dst hc
 have hs' : OneStep R lim { ao with bar := false } s.tmps s.H v s1.H := by
  have : ({ ao with bar := false } : AOper) = ao := by cases ao; simp at hb; subst hb; rfl
  rw [this]; exact hs
 refine one_wp hF hR h.inv.rel (Nat.le_trans h.inv.l0 h.inv.l1) h.inv.l2 (fun b g g2 => h.inv.fresh b g (Nat.lt_of_lt_of_le g2 hB)) h.tmps hi hc hs' ?_
 intro ρ1 v1 w1 hp hv
 have hp' : Post P n0 lim ρ s.H w ρ1 s1.H w1 := hp
 refine hK _ ρ1 _ w1 hk (h.det hf hp' ?_ (defers_put _ _ _) hB)
 rw [hput, hd]
 exact put_rel_tmps (h.tmps.ext hp'.ext) hv _
theorem builtin_not {b : Builtin} {ts : Array TypeId} {ys : List Opd} {aop : Aop} (hc : compBuiltin P b ts ys = some aop) : (∀ x, aop ≠ .mapRange x) ∧ (∀ x, aop ≠ .mapNext x) ∧ ∀ x, aop ≠ .mapEntry x := by
 unfold compBuiltin at hc
 repeat' (split at hc)
 all_goals first
  | (simp at hc; done)
  | (simp at hc; subst hc; exact ⟨fun _ => by simp, fun _ => by simp, fun _ => by simp⟩)
  | (rw [Option.map_eq_some_iff] at hc; obtain ⟨_, _, rfl⟩ := hc; exact ⟨fun _ => by simp, fun _ => by simp, fun _ => by simp⟩)
  | (simp at hc; obtain ⟨_, rfl⟩ := hc; exact ⟨fun _ => by simp, fun _ => by simp, fun _ => by simp⟩)
theorem opP_sim {F : Fence} {m : Nat} (hF : Wide F) (hR : CallSim P R) (hRk : Keeps R) (hRP : CallSimP P RP) (hf : ∀ b, He.next ≤ b → b < B → ρe b = none) (h : StP P B n0 lim0 lim s0 ρe He we s ρ a w) {ops : Array Oper} {i : Nat} {o : Oper} {ao : AOper} (hi : ops[i]? = some o) (hc : compOper P ops o = some ao)
  {K : PSt → Prop} (hop : opP R RP lim0 lim ao s K) {K' : Act → World → Prop} {Q : Exit → Act → World → Prop} (hKB : ∀ s', s.H.next ≤ s'.H.next → K s' → s'.H.next ≤ B) (hK : ∀ s' ρ' a' w', K s' → StP P B n0 lim0 lim s0 ρe He we s' ρ' a' w' → K' a' w') : wpOpIn F m P ops Q i K' a w := by
 have he := ev_rel h.tmps
 unfold opP at hop
 split at hop
 ·-- a range begins
  rename_i x hx
  obtain ⟨hg, hit, hop⟩ := hop
  obtain ⟨hcop, hdst, hw⟩ := unguarded (s := s) (Q := Q) (K' := K') (F := F) (m := m) hi hc hg h.tmps
  refine hw ?_
  rw [hx] at hcop
  have hcop0 := hcop
  obtain ⟨dst, op, type, pos, after, guard⟩ := o
  simp only at hcop hdst
  cases op
  case range t mo =>
   simp only [compOp] at hcop
   split at hcop
   case h_2 => simp at hcop
   rename_i kt e hu
   rw [Option.map_eq_some_iff] at hcop
   obtain ⟨y, hy, hyx⟩ := hcop
   simp at hyx; subst hyx
   have hm := he _ _ hy
   have put : ∀ {T : List AVal} {v' : Value} {w' : World} (v : AVal), VRel ρ v v' → LRel ρ (putT s.tmps ao.dst v) (a.put dst v').tmps.toList := fun v hv => by
    rw [hdst]; exact put_rel_tmps h.tmps hv _
   split at hop
   ·rename_i hev
    rw [hev] at hm
    have hp := Post.alloc' (s := s) (lim := lim) h.inv.rel (.mapIter none 0 #[] 0) (w := w)
    refine value_wp hF (aop := .mapRange y) (o := ⟨dst, .range t mo, type, pos, after, guard⟩) hcop0 (v' := .pointer (some ⟨w.heap.size, 0, none⟩)) (w' := w.alloc (.mapIter none 0 #[] 0)) ?_ ?_
    ·simp only [Go.execOp]
     generalize a.eval mo = mv at hm
     cases hm
     simp [Instr.range, run_und hu]
    ·have hst := h.det hf hp (T := putT s.tmps ao.dst (.itr w.heap.size)) (a' := a.put dst (.pointer (some ⟨w.heap.size, 0, none⟩))) (put (T := []) (w' := w) _ (.itr _)) (defers_put _ _ _) (hKB (⟨putT s.tmps ao.dst (.itr w.heap.size), s.H, some ⟨w.heap.size, none, [], none⟩⟩ : PSt) (by exact Nat.le_refl _) (hop w.heap.size))
     refine hK _ ρ _ _ (hop w.heap.size) ⟨hst.post, hst.inv, hst.tmps, ?_, hst.marks⟩
     refine ⟨h.post.size, Nat.lt_of_lt_of_eq (Nat.lt_succ_self _) (World.size_alloc _ _).symm, fun b L e => Nat.ne_of_lt (h.inv.rel.dom b L e), rfl, rfl, World.alloc_heap_new w _⟩
   ·rename_i b hev
    obtain ⟨es, clock, hget, hblt, hop⟩ := hop
    rw [hev] at hm
    obtain ⟨L, hL, hmv⟩ : ∃ L, ρ b = some L ∧ a.eval mo = .map (some L.blk) := by
     generalize a.eval mo = mv at hm
     cases hm with | map hρ => exact ⟨_, hρ, rfl⟩
    obtain ⟨es', hwm, hmok⟩ := h.inv.rel.map b L es clock hL hget
    have hp := Post.alloc' (s := s) (lim := lim) h.inv.rel (.mapIter (some L.blk) clock.n #[] clock.n) (w := w)
    refine value_wp hF (aop := .mapRange y) (o := ⟨dst, .range t mo, type, pos, after, guard⟩) hcop0 (v' := .pointer (some ⟨w.heap.size, 0, none⟩)) (w' := w.alloc (.mapIter (some L.blk) clock.n #[] clock.n)) ?_ ?_
    ·simp only [Go.execOp, hmv]
     simp [Instr.range, run_und hu, Go.MapKept.run_getObj_map hwm]
    ·have hst := h.det hf hp (T := putT s.tmps ao.dst (.itr w.heap.size)) (a' := a.put dst (.pointer (some ⟨w.heap.size, 0, none⟩))) (put (T := []) (w' := w) _ (.itr _)) (defers_put _ _ _) (hKB (⟨putT s.tmps ao.dst (.itr w.heap.size), s.H, some ⟨w.heap.size, some b, es, none⟩⟩ : PSt) (by exact Nat.le_refl _) (hop w.heap.size))
     refine hK _ ρ _ _ (hop w.heap.size) ⟨hst.post, hst.inv, hst.tmps, ?_, hst.marks⟩
     have hlt := heap_lt hwm
     obtain ⟨l, hl1, hl2⟩ := hmok.perm
     refine ⟨h.post.size, Nat.lt_of_lt_of_eq (Nat.lt_succ_self _) (World.size_alloc _ _).symm, fun b L e => Nat.ne_of_lt (h.inv.rel.dom b L e), L, clock.n, #[], es', hL, h.inv.old b L hblt hL, World.alloc_heap_new w _, ?_, hmok.born, hmok.young, ⟨l, hl1, ?_⟩, fun k v e => by simp at e⟩
     ·show (w.heap.push _)[L.blk]? = _
      rw [Array.getElem?_push, if_neg (by omega)]; exact hwm
     ·have : (leftOf es' #[]).toList = es'.toList := by unfold leftOf; simp
      rw [this]; exact hl2
   ·exact hop.elim
  case call c =>
   exfalso
   simp only [compOp] at hcop
   split at hcop
   ·split at hcop
    ·simp at hcop
    ·rw [Option.map_eq_some_iff] at hcop; obtain ⟨_, _, h2⟩ := hcop; simp at h2
    ·exact (builtin_not hcop).1 _ rfl
    ·simp at hcop
   ·simp at hcop
  case makeFunc fn first captured =>
   exfalso
   cases fn <;> simp only [compOp] at hcop <;> try (simp at hcop; done)
   all_goals (split at hcop <;> simp at hcop)
  all_goals
   exfalso
   simp only [compOp, compBin] at hcop
   repeat' (split at hcop)
   all_goals first
    | (simp at hcop; done)
    | (rw [Option.map_eq_some_iff] at hcop; obtain ⟨_, _, h2⟩ := hcop; simp at h2)
 ·-- a step
  rename_i x hx
  obtain ⟨hg, it, hit, hev, hstep⟩ := hop
  obtain ⟨hcop, hdst, hw⟩ := unguarded (s := s) (Q := Q) (K' := K') (F := F) (m := m) hi hc hg h.tmps
  refine hw ?_
  rw [hx] at hcop
  have hcop0 := hcop
  obtain ⟨dst, op, type, pos, after, guard⟩ := o
  simp only at hcop hdst
  cases op
  case next io isStr =>
   simp only [compOp] at hcop
   split at hcop
   ·simp at hcop
   rename_i hstr
   rw [Option.map_eq_some_iff] at hcop
   obtain ⟨y, hy, hyx⟩ := hcop
   simp at hyx; subst hyx
   have hm := he _ _ hy
   rw [hev] at hm
   have hmv : a.eval io = .pointer (some ⟨it.r, 0, none⟩) := by
    generalize a.eval io = mv at hm
    cases hm; rfl
   obtain ⟨v, v', it', w', q1, q2, q3, q4⟩ := next_sim h hit type hstep
   have hs : isStr = false := by simpa using hstr
   refine value_wp hF (aop := .mapNext y) (o := ⟨dst, .next io isStr, type, pos, after, guard⟩) hcop0 (v' := v') (w' := w') ?_ ?_
   ·simp only [Go.execOp, hmv, hs, Sem.run_bind, q1, Result.andThen_ok, Sem.run_pure]
   ·refine hK _ ρ _ _ q3 (q4 _ _ ?_ (defers_put _ _ _))
    rw [hdst]; exact put_rel_tmps h.tmps q2 _
  case call c =>
   exfalso
   simp only [compOp] at hcop
   split at hcop
   ·split at hcop
    ·simp at hcop
    ·rw [Option.map_eq_some_iff] at hcop; obtain ⟨_, _, h2⟩ := hcop; simp at h2
    ·exact (builtin_not hcop).2.1 _ rfl
    ·simp at hcop
   ·simp at hcop
  case makeFunc fn first captured =>
   exfalso
   cases fn <;> simp only [compOp] at hcop <;> try (simp at hcop; done)
   all_goals (split at hcop <;> simp at hcop)
  all_goals
   exfalso
   simp only [compOp, compBin] at hcop
   repeat' (split at hcop)
   all_goals first
    | (simp at hcop; done)
    | (rw [Option.map_eq_some_iff] at hcop; obtain ⟨_, _, h2⟩ := hcop; simp at h2)
 ·-- what came last
  rename_i x hx
  obtain ⟨hg, it, k, v, hit, hev, hcur, hk⟩ := hop
  obtain ⟨hcop, hdst, hw⟩ := unguarded (s := s) (Q := Q) (K' := K') (F := F) (m := m) hi hc hg h.tmps
  refine hw ?_
  rw [hx] at hcop
  have hcop0 := hcop
  obtain ⟨dst, op, type, pos, after, guard⟩ := o
  simp only at hcop hdst
  cases op
  case entry io =>
   simp only [compOp] at hcop
   rw [Option.map_eq_some_iff] at hcop
   obtain ⟨y, hy, hyx⟩ := hcop
   simp at hyx; subst hyx
   have hm := he _ _ hy
   rw [hev] at hm
   have hmv : a.eval io = .pointer (some ⟨it.r, 0, none⟩) := by
    generalize a.eval io = mv at hm
    cases hm; rfl
   have hir := h.it
   rw [hit] at hir
   obtain ⟨i1, i2, i3, i4⟩ := hir
   cases hm' : it.m with
   | none => rw [hm'] at i4; rw [i4.2.1] at hcur; simp at hcur
   | some mb =>
    rw [hm'] at i4
    obtain ⟨L, since, seen, es, g1, g2, g3, g4, g5, g6, _, g9⟩ := i4
    obtain ⟨seen0, e, q1, q2, q3, q4⟩ := g9 k v hcur
    subst q1
    have hrun := run_entry_at (P := P) w it.r L.blk since seen0 es since e g3 g4 q2 g5
    refine value_wp hF (aop := .mapEntry y) (o := ⟨dst, .entry io, type, pos, after, guard⟩) hcop0 (v' := .tuple #[e.key, e.val]) (w' := w) ?_ ?_
    ·simp only [Go.execOp, hmv, Sem.run_bind, hrun, Result.andThen_ok, Sem.run_pure]
    ·refine hK _ ρ _ _ hk ⟨h.post, h.inv, ?_, h.it, by rw [defers_put]; exact h.marks⟩
     rw [hdst]; exact put_rel_tmps h.tmps (VRel.tup_of (LRel.cons q3 (LRel.cons q4 (LRel.nil ρ)))) _
  case call c =>
   exfalso
   simp only [compOp] at hcop
   split at hcop
   ·split at hcop
    ·simp at hcop
    ·rw [Option.map_eq_some_iff] at hcop; obtain ⟨_, _, h2⟩ := hcop; simp at h2
    ·exact (builtin_not hcop).2.2 _ rfl
    ·simp at hcop
   ·simp at hcop
  case makeFunc fn first captured =>
   exfalso
   cases fn <;> simp only [compOp] at hcop <;> try (simp at hcop; done)
   all_goals (split at hcop <;> simp at hcop)
  all_goals
   exfalso
   simp only [compOp, compBin] at hcop
   repeat' (split at hcop)
   all_goals first
    | (simp at hcop; done)
    | (rw [Option.map_eq_some_iff] at hcop; obtain ⟨_, _, h2⟩ := hcop; simp at h2)
 ·-- deleting
  rename_i g ls mo ko hx
  rcases hop with hop | ⟨hg, it, b, H1, hit, hm, hev, hdel, hleft, hk⟩
  ·exact det_wp hF hR hRk hf h hi hc hop hKB hK
  obtain ⟨hcop, hdst, hw⟩ := unguarded (s := s) (Q := Q) (K' := K') (F := F) (m := m) hi hc hg h.tmps
  refine hw ?_
  rw [hx] at hcop
  have hcop0 := hcop
  obtain ⟨dst, op, type, pos, after, guard⟩ := o
  simp only at hcop hdst
  cases op
  case call c =>
   obtain ⟨ys, hys⟩ : ∃ ys, allSome copd c.args.toList = some ys := by
    cases h0 : allSome copd c.args.toList with
    | none => simp [compOp, h0] at hcop
    | some ys => exact ⟨ys, rfl⟩
   simp only [compOp, hys] at hcop
   split at hcop
   ·simp at hcop
   ·rw [Option.map_eq_some_iff] at hcop; obtain ⟨_, _, h2⟩ := hcop; simp at h2
   ·rename_i bi hbi
    obtain ⟨t, kt, e, h0, ht, hk2, hbd, hys2⟩ : ∃ t kt e, c.argTypes[0]? = some t ∧ P.underlying t = some (.map kt e) ∧ keyT P kt = some (g, ls) ∧ bi = .delete ∧ ys = [mo, ko] := by
     unfold compBuiltin at hcop
     split at hcop
     case h_4 =>
      rename_i mm kk
      split at hcop
      ·rename_i t h0
       split at hcop
       ·rename_i kt e ht
        rw [Option.map_eq_some_iff] at hcop
        obtain ⟨⟨g', ls'⟩, hk2, h2⟩ := hcop
        simp at h2
        obtain ⟨rfl, rfl, rfl, rfl⟩ := h2
        exact ⟨t, kt, e, h0, ht, hk2, rfl, rfl⟩
       ·simp at hcop
      ·simp at hcop
     all_goals
      exfalso
      repeat' (split at hcop)
      all_goals first
       | (simp at hcop; done)
       | (rw [Option.map_eq_some_iff] at hcop; obtain ⟨_, _, h2⟩ := hcop; simp at h2)
    subst hbd hys2
    have hall := allSome_map_rel (ρ := ρ) he hys
    generalize e1 : c.args.toList.map a.eval = as at hall
    match as, hall with
    | [], hall => have := hall.1; simp at this
    | [_], hall => have := hall.1; simp at this
    | _ :: _ :: _ :: _, hall => have := hall.1; simp at this
    | [m', k'], hall =>
     have hargs : c.args.map a.eval = #[m', k'] := by apply Array.ext'; simpa using e1
     have hmr := hall.head
     rw [hev] at hmr
     rw [hev] at hdel
     obtain ⟨L, es, clock, es2, d1, d2, d3, d4, d5, d6⟩ := delete_run (ty := type) h.inv.rel h.inv.l0 h0 ht hk2 hmr hall.tail.head hdel
     refine value_wp hF (aop := .mapDelete g ls mo ko) (o := ⟨dst, .call c, type, pos, after, guard⟩) hcop0 (v' := .tuple #[]) (w' := w.putObj L.blk (.map es2 clock)) ?_ ?_
     ·simp only [Go.execOp, resolve, hbi, Sem.run_bind, Sem.run_pure, Result.andThen_ok, invoke, hargs, builtin, d4]
     ·refine hK _ ρ _ _ hk (h.deleted hf hit hm hleft d1 d2 d3 d5 d6 ?_ (defers_put _ _ _) (hKB _ d5.next hk))
      rw [hdst]; exact put_rel_tmps h.tmps (VRel.und ρ) _
   ·simp at hcop
  case makeFunc fn first captured =>
   exfalso
   cases fn <;> simp only [compOp] at hcop <;> try (simp at hcop; done)
   all_goals (split at hcop <;> simp at hcop)
  all_goals
   exfalso
   simp only [compOp, compBin] at hcop
   repeat' (split at hcop)
   all_goals first
    | (simp at hcop; done)
    | (rw [Option.map_eq_some_iff] at hcop; obtain ⟨_, _, h2⟩ := hcop; simp at h2)
 ·-- a call
  rename_i f xs hx
  rcases hop with hop | ⟨hg, hit, hcall⟩
  ·exact det_wp hF hR hRk hf h hi hc hop hKB hK
  obtain ⟨hcop, hdst, hw⟩ := unguarded (s := s) (Q := Q) (K' := K') (F := F) (m := m) hi hc hg h.tmps
  refine hw ?_
  rw [hdst] at hcall
  exact call_wp hF hRP hf h hcop (.inl ⟨xs, hx, rfl⟩) hit hcall hKB hK
 ·rename_i x xs hx
  rcases hop with hop | hop
  ·exact det_wp hF hR hRk hf h hi hc hop hKB hK
  split at hop
  ·rename_i f first captured hev
   obtain ⟨hg, hit, hcall⟩ := hop
   obtain ⟨hcop, hdst, hw⟩ := unguarded (s := s) (Q := Q) (K' := K') (F := F) (m := m) hi hc hg h.tmps
   refine hw ?_
   rw [hdst] at hcall
   exact call_wp hF hRP hf h hcop (.inr ⟨x, xs, first, captured, hx, hev, rfl⟩) hit hcall hKB hK
  ·exact hop.elim
 ·exact det_wp hF hR hRk hf h hi hc hop hKB hK
end
end Go.Ahs
