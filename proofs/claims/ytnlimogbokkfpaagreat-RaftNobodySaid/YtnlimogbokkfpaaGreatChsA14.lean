/- One operation in its place; a region whose operations go in the text's order. -/
import Derived.Test.YtnlimogbokkfpaaGreatChsA13
import Derived.OrdersIn
import Derived.LoopNIn
import Derived.RangeFuncRecord
set_option linter.unusedSimpArgs false
set_option linter.unusedVariables false
namespace Go.Ahs
inductive Wide : Fence → Prop where
 | wide : Wide Fence.wide
 | round (l : Nat) : Wide (Fence.wide.inRound l)
theorem Wide.fn {F : Fence} (h : Wide F) (f : FuncId) : F.fn f := by cases h <;> trivial
theorem Wide.depth {F : Fence} (h : Wide F) : F.depth = none := by cases h <;> rfl
theorem Wide.deep {F : Fence} (h : Wide F) {m : Nat} : F.depth.isSome = true → 1 ≤ m := fun e => by rw [h.depth] at e; simp at e
theorem Wide.calls {F : Fence} (h : Wide F) {m : Nat} {P : Program} {f : FuncId} {args : Array Value} {w : World} {R : Ending → World → Prop} (hc : Calls P f args w R) : CallsIn F m P f args w R := by
 cases h with
 | wide => exact callsIn_wide.2 hc
 | round l => exact (callsIn_wide.2 hc : CallsIn Fence.wide m P f args w R)
theorem Wide.rounds {F : Fence} (h : Wide F) {m : Nat} {P : Program} {l : Nat} {f : FuncId} {tmps : Array Value} {assign body : Code} {w : World} {R : Ending → World → Prop}
  (hc : RoundIn Fence.wide 0 P l f tmps assign body w R) : RoundIn F m P l f tmps assign body w R := by
 cases h with
 | wide => exact ⟨trivial, fun c cs _ => hc.2 c cs (room_wide _)⟩
 | round l' => exact ⟨trivial, fun c cs _ => hc.2 c cs (room_wide _)⟩
def Ended (P : Program) (n0 lim : Nat) (ρ : Mp) (H : Heap) (w : World) (v : AVal) (H' : Heap) (e : Ending) (w' : World) : Prop :=
 ∃ v' ρ', e = .returned v' ∧ VRel ρ' v v' ∧ Post P n0 lim ρ H w ρ' H' w'
def CallSim (P : Program) (R : Caller) : Prop :=
 ∀ (n0 lim : Nat) (tg : Tgt) (args : List AVal) (H : Heap) (v : AVal) (H' : Heap), R lim tg args H = some (v, H') →
  match tg with
  | .fn f =>
   (∃ fn, P.funcs[f]? = some fn ∧ fn.body.isSome = true ∧ (fn.name == "runtime.NumGoroutine") = false) ∧
   ∀ (ρ : Mp) (w : World) (args' : Array Value), n0 ≤ lim → lim ≤ H.next → (∀ b, H.next ≤ b → b < H'.next → ρ b = none) → Rel P n0 ρ H w → LRel ρ args args'.toList →
    Calls P f args' w (Ended P n0 lim ρ H w v H')
  | .yl b =>
   ∀ (ρ : Mp) (w : World) (args' : Array Value) (L : Loc), ρ b = some L → n0 ≤ lim → lim ≤ H.next → (∀ b, H.next ≤ b → b < H'.next → ρ b = none) → Rel P n0 ρ H w → LRel ρ args args'.toList →
    ∃ f tmps assign body, (Instr.yield L.blk args').run P w = .ok (.round L.blk f tmps assign body) w ∧ RoundIn Fence.wide 0 P L.blk f tmps assign body w (Ended P n0 lim ρ H w v H')
section
variable {P : Program} {n0 lim : Nat} {ρ : Mp} {H H' : Heap} {w : World} {R : Caller} {v : AVal}
theorem Post.weaken {lim' : Nat} {ρ' : Mp} {w' : World} (hl : lim ≤ lim') (h : Post P n0 lim' ρ H w ρ' H' w') : Post P n0 lim ρ H w ρ' H' w' :=
 ⟨h.rel, h.ext, fun b L a c => by
   obtain ⟨g1, g2, g3⟩ := h.new b L a c
   refine ⟨g1, g2, g3.imp id ?_⟩
   rintro ⟨b0, L0, q1, q2, q3, q4⟩
   exact ⟨b0, L0, Nat.le_trans hl q1, q2, q3, q4⟩,
  fun r h1 h2 => h.frame r h1 fun b L a c d => h2 b L (Nat.le_trans hl a) c d, h.size, fun b hb => h.keep b (Nat.lt_of_lt_of_le hb hl), h.next, h.rest⟩
theorem getD_rel {xs : List AVal} {as : Array Value} (h : LRel ρ xs as.toList) (t : Nat) : VRel ρ (xs.getD t und) (as.getD t undef) := by
 have hl : xs.length = as.size := by simpa using h.1
 rw [List.getD_eq_getElem?_getD, Array.getD_eq_getD_getElem?]
 by_cases ht : t < xs.length
 ·have ht' : t < as.size := by omega
  rw [List.getElem?_eq_getElem ht, Array.getElem?_eq_getElem ht']
  exact h.2 t _ _ (List.getElem?_eq_getElem ht) (by simp [ht'])
 ·have ht' : ¬ t < as.size := by omega
  rw [List.getElem?_eq_none (by omega), Array.getElem?_eq_none (by omega)]
  exact VRel.und ρ
theorem ev_rel {tmps : List AVal} {a : Act} (h : LRel ρ tmps a.tmps.toList) : EvRel ρ (St.ev tmps) a.eval := by
 intro x x' hx
 cases x with
 | tmp t => simp [copd] at hx; subst hx; exact getD_rel h t
 | const c =>
  simp [copd] at hx
  obtain ⟨y, hy, rfl⟩ := hx
  exact cval_rel ρ hy
 | global g => simp [copd] at hx
 | func f => simp [copd] at hx; subst hx; exact VRel.fn_of (LRel.nil ρ) (LRel.nil ρ)
theorem put_rel_tmps {tmps : List AVal} {a : Act} (h : LRel ρ tmps a.tmps.toList) {v' : Value} (hv : VRel ρ v v') (dst : Option Nat) : LRel ρ (putT tmps dst v) (a.put dst v').tmps.toList := by
 cases dst with
 | none => exact h
 | some d =>
  simp only [putT, Act.put, Array.toList_setIfInBounds]
  refine ⟨by simpa using h.1, fun i u u' e e' => ?_⟩
  rw [List.getElem?_set] at e e'
  by_cases hd : d = i
  ·subst hd
   simp only [if_true] at e e'
   split at e
   ·split at e'
    ·simp at e e'; subst e e'; exact hv
    ·simp at e'
   ·simp at e
  ·rw [if_neg hd] at e e'
   exact h.2 i u u' e e'
theorem bool_rel {x : AVal} {x' : Value} (h : VRel ρ x x') (b : Bool) : x = .bool b ↔ x' = .bool b := by
 cases h <;> simp
theorem yield_rel {tmps : List AVal} {a : Act} (h : LRel ρ tmps a.tmps.toList) (t : Nat) (want : Bool) :
  ((match a.tmps[t]? with | some (.bool b) => some b | _ => none : Option Bool) == some want) = (match tmps[t]? with | some (.bool b) => b == want | _ => false) := by
 have hl : tmps.length = a.tmps.size := by simpa using h.1
 by_cases hlt : t < tmps.length
 ·have hlt' : t < a.tmps.size := by omega
  rw [List.getElem?_eq_getElem hlt, Array.getElem?_eq_getElem hlt']
  have hv := h.2 t tmps[t] a.tmps[t] (List.getElem?_eq_getElem hlt) (by simp [hlt'])
  generalize tmps[t] = x at hv
  generalize a.tmps[t] = x' at hv
  cases hv <;> simp
 ·rw [List.getElem?_eq_none (by omega), Array.getElem?_eq_none (by omega)]
  rfl
theorem wanted_rel {ops : Array Oper} {tmps : List AVal} {a : Act} (h : LRel ρ tmps a.tmps.toList) {o : Oper} {g : Option (Nat × Bool)} (hg : compGuard ops o.guard = some g) :
  Region.wanted o (yielded ops a.tmps) = wantedA tmps g := by
 unfold compGuard at hg
 unfold Region.wanted
 split at hg
 ·rename_i e; simp at hg; subst hg; rw [e]; rfl
 ·rename_i j want e
  split at hg
  ·rename_i t ht
   simp at hg; subst hg
   rw [e]
   simp only [wantedA, yielded, ht, Option.bind_some]
   exact yield_rel h t want
  ·simp at hg
theorem builtin_noCall {b : Builtin} {ts : Array TypeId} {ys : List Opd} {aop : Aop} (hc : compBuiltin P b ts ys = some aop) : aop.isCall = false := by
 unfold compBuiltin at hc
 repeat' (split at hc)
 all_goals first
  | (simp at hc; done)
  | (simp at hc; subst hc; rfl)
  | (rw [Option.map_eq_some_iff] at hc; obtain ⟨_, _, rfl⟩ := hc; rfl)
  | (simp at hc; obtain ⟨_, _, rfl⟩ := hc; rfl)
  | (simp at hc; obtain ⟨_, rfl⟩ := hc; rfl)
theorem rest_of {α : Type} (x : α) (xs : Array α) : (#[x] ++ xs).extract 1 (#[x] ++ xs).size = xs := by
 apply Array.ext'
 rw [Array.toList_extract, List.extract_eq_take_drop]
 simp
 rw [← Array.length_toList, List.take_length]
theorem comp_call {ty : TypeId} {op : Op} {aop : Aop} (hc : compOp P ty op = some aop) (hcall : aop.isCall = true) : ∃ c, op = .call c := by
 have no : aop.isCall = false → ∃ c, op = .call c := fun h => by rw [h] at hcall; simp at hcall
 cases op
 case call c => exact ⟨c, rfl⟩
 case binOp o t x y yt =>
  simp only [compOp] at hc
  split at hc
  ·rcases compBin_inv hc with rfl | ⟨_, k, _, rfl⟩ <;> exact no rfl
  ·simp at hc
 case makeFunc fn first captured =>
  cases fn <;> simp only [compOp] at hc <;> try (simp at hc; done)
  ·split at hc <;> simp at hc
   subst hc; exact no rfl
  ·split at hc <;> simp at hc
   obtain ⟨_, _, rfl⟩ := hc; exact no rfl
 case mapUpdate t m k v =>
  simp only [compOp] at hc
  split at hc
  ·rw [Option.map_eq_some_iff] at hc
   obtain ⟨_, _, rfl⟩ := hc; exact no rfl
  ·simp at hc
 case entryStore t m k v =>
  simp only [compOp] at hc
  split at hc
  ·rw [Option.map_eq_some_iff] at hc
   obtain ⟨_, _, rfl⟩ := hc; exact no rfl
  ·simp at hc
 case range t m =>
  simp only [compOp] at hc
  split at hc
  ·rw [Option.map_eq_some_iff] at hc
   obtain ⟨_, _, rfl⟩ := hc; exact no rfl
  ·simp at hc
 case next it s =>
  simp only [compOp] at hc
  split at hc
  ·simp at hc
  ·rw [Option.map_eq_some_iff] at hc
   obtain ⟨_, _, rfl⟩ := hc; exact no rfl
 all_goals
  simp only [compOp] at hc
  (try simp at hc)
  first
   | (subst hc; exact no rfl)
   | (obtain ⟨_, _, rfl⟩ := hc; exact no rfl)
   | skip
 all_goals
  (repeat' (split at hc))
  all_goals first
   | (simp at hc; done)
   | (simp at hc; subst hc; exact no rfl)
   | (simp at hc; obtain ⟨_, _, rfl⟩ := hc; exact no rfl)
   | (simp at hc; obtain ⟨_, rfl⟩ := hc; exact no rfl)
   | (simp at hc; obtain ⟨_, _, _, rfl⟩ := hc; exact no rfl)
theorem not_defer {ty : TypeId} {op : Op} {aop : Aop} (hc : compOp P ty op = some aop) : ∀ c, op ≠ .defer c := by
 rintro c rfl
 simp [compOp] at hc
theorem VRel.yl_inv {ρ : Mp} {b : Nat} {v' : Value} (h : VRel ρ (.yl b) v') : ∃ L, ρ b = some L ∧ v' = .func (.yield L.blk) #[] #[] := by
 cases h with | yl h => exact ⟨_, h, rfl⟩
theorem oper_wp {F : Fence} {m : Nat} (hF : Wide F) (hR : CallSim P R) (hr : Rel P n0 ρ H w) (hl : n0 ≤ lim) (hlim : lim ≤ H.next) (hfr : ∀ b, H.next ≤ b → b < H'.next → ρ b = none) {tmps : List AVal} {a : Act} (ht : LRel ρ tmps a.tmps.toList)
  {ev : Opd → AVal} (hev : ev = St.ev tmps) {o : Oper} {aop : Aop} (hc : compOp P o.type o.op = some aop) (h : step R lim ev H aop = some (v, H')) {K : Act → World → Prop} {Q : Exit → Act → World → Prop}
  (hK : ∀ ρ' v' w', Post P n0 lim ρ H w ρ' H' w' → VRel ρ' v v' → K (a.put o.dst v') w') : o.wpIn F m P a w K Q := by
 subst hev
 have he := ev_rel ht
 refine ⟨fun f _ => hF.fn f, ?_⟩
 rw [Oper.semAt_eq _ _ _ (not_defer hc)]
 cases hcall : aop.isCall with
 | false =>
  obtain ⟨x, w', ρ', q1, q2, q3⟩ := sim_step hr hl hlim (fun hlt => hfr _ (Nat.le_refl _) hlt) he hc hcall h
  rw [q1]
  rcases q3 with ⟨v', rfl, hv⟩ | ⟨rfl, rfl⟩
  ·exact hK ρ' v' w' q2 hv
  ·exact hK ρ' undef w' q2 (VRel.und ρ')
 | true =>
  obtain ⟨dst, op, type, pos, after, guard⟩ := o
  simp only at hc
  have main : ∀ (c : Call) (f : FuncId) (as : List AVal) (as' : Array Value), op = .call c → R lim (.fn f) as H = some (v, H') → LRel ρ as as'.toList →
    (do let d ← resolve a.eval c type; invoke d.target d.args : Sem Next).run P w = (callFunc f as').run P w → Oper.uponIn F m P ⟨dst, op, type, pos, after, guard⟩ a K Q ((Go.execOp a.eval ⟨dst, op, type, pos, after, guard⟩).run P w) := by
   rintro c f as as' rfl hRf hargs hrun
   obtain ⟨⟨fn, hf, hb, hn⟩, hcalls⟩ := hR n0 lim (.fn f) as H v H' hRf
   simp only [Go.execOp]
   rw [hrun]
   have hb' : fn.body.isNone = false := by cases h0 : fn.body <;> simp [h0] at hb ⊢
   have : (callFunc f as').run P w = .ok (.enter f as') w := by
    simp only [callFunc, Sem.run_bind, run_program, Result.andThen_ok, hf, hn, hb', Bool.false_eq_true, if_false, Sem.run_pure]
   rw [this]
   simp only [Oper.uponIn]
   refine ⟨hF.deep, hF.calls ((hcalls ρ w as' hl hlim hfr hr hargs).mono ?_)⟩
   rintro e w' ⟨v', ρ', rfl, hv, hp⟩
   exact hK ρ' v' w' hp hv
  have fnCase : ∀ (c : Call) (x : Operand) (y : Opd) (ys : List Opd), op = .call c → c.callee = .value x → copd x = some y → allSome copd c.args.toList = some ys →
    (∃ f first captured, St.ev tmps y = .fn f first captured ∧ R lim (.fn f) (first ++ ys.map (St.ev tmps) ++ captured) H = some (v, H')) → Oper.uponIn F m P ⟨dst, op, type, pos, after, guard⟩ a K Q ((Go.execOp a.eval ⟨dst, op, type, pos, after, guard⟩).run P w) := by
   rintro c x y ys hop hcal hx hys ⟨f, first, captured, hfn, hRf⟩
   have hfr' := he _ _ hx
   rw [hfn] at hfr'
   obtain ⟨as, bs, e1, l1, l2⟩ := hfr'.fn_inv
   have hargs := allSome_map_rel he hys
   refine main c f _ (as ++ c.args.map a.eval ++ bs) hop hRf (by simpa using LRel.append (LRel.append l1 hargs) l2) ?_
   simp only [resolve, hcal, Deferred.ofValue, e1, Sem.run_bind, Sem.run_pure, Result.andThen_ok, invoke]
  obtain ⟨c, rfl⟩ := comp_call hc hcall
  simp only [compOp] at hc
  split at hc
  ·rename_i ys hys
   split at hc
   ·rename_i f hcal
    simp at hc; subst hc
    exact fnCase c (.func f) (.val (.fn f [] [])) ys rfl hcal rfl hys ⟨f, [], [], rfl, by simpa [step] using h⟩
   ·rename_i x hnf hcal
    simp at hc
    obtain ⟨y, hy, rfl⟩ := hc
    simp only [step] at h
    split at h
    ·rename_i f first captured hfn
     exact fnCase c x y ys rfl hcal hy hys ⟨f, first, captured, hfn, h⟩
    ·rename_i b hyl
     have hy' := he _ _ hy
     rw [hyl] at hy'
     obtain ⟨L, hL, e1⟩ := hy'.yl_inv
     have hargs := allSome_map_rel he hys
     obtain ⟨f, rt, asg, body, hrun, hround⟩ := hR n0 lim (.yl b) _ H v H' h ρ w (c.args.map a.eval) L hL hl hlim hfr hr (by simpa using hargs)
     simp only [Go.execOp, resolve, hcal, Deferred.ofValue, e1, Sem.run_bind, Sem.run_pure, Result.andThen_ok, invoke, Array.empty_append, Array.append_empty]
     rw [hrun]
     simp only [Oper.uponIn]
     refine ⟨hF.deep, (hF.rounds hround).mono ?_⟩
     rintro e w' ⟨v', ρ', rfl, hv, hp⟩
     exact hK ρ' v' w' hp hv
    ·simp at h
   ·rename_i b hb
    rw [builtin_noCall hc] at hcall; simp at hcall
   ·rename_i x name hcal
    simp at hc
    obtain ⟨y, hy, rfl⟩ := hc
    simp only [step] at h
    split at h
    case h_2 => simp at h
    rename_i t v0 hif
    split at h
    case h_2 => simp at h
    rename_i f htab
    have hm := invTab_lookup htab
    have hy' := he _ _ hy
    rw [hif] at hy'
    obtain ⟨x', e1, r2⟩ := hy'.iface_inv
    have hargs := allSome_map_rel he hys
    refine main c f _ (#[x'] ++ c.args.map a.eval) rfl h (by simpa using LRel.cons r2 hargs) ?_
    simp only [resolve, hcal, Sem.run_bind, Sem.run_pure, Result.andThen_ok, invoke, e1, callMethod]
    have hx : (#[Value.iface t x'] ++ c.args.map a.eval)[0]? = some (Value.iface t x') := by rw [Array.getElem?_append_left (by simp)]; rfl
    have hrest := rest_of (Value.iface t x') (c.args.map a.eval)
    rw [hx, hrest]
    simp only [Sem.run_bind, run_program, Result.andThen_ok, show P.types.size + Made.depth = P.types.size + 99 + 1 from rfl, method_run hm]
  ·simp at hc
end
end Go.Ahs
