/- Code whose outcome hangs on draws: what holds of it whatever is drawn. -/
import Derived.Test.YtnlimogbokkfpaaGreatChsB1
import Derived.Maps.RangeRun
set_option linter.unusedSimpArgs false
set_option linter.unusedVariables false
namespace Go.Ahs
structure ItA where
 r : Nat
 m : Option Nat
 left : List (AVal × AVal)
 cur : Option (AVal × AVal)
structure PSt where
 tmps : List AVal
 H : Heap
 it : Option ItA
abbrev CallerP := Nat → Nat → Tgt → List AVal → Heap → (AVal → Heap → Prop) → Prop
def ItA.step (it : ItA) (K : AVal → ItA → Prop) : Prop :=
 (it.left = [] → K (.tup [.bool false]) it) ∧ ∀ k v rest, it.left.Perm ((k, v) :: rest) → K (.tup [.bool true, k, v]) { it with left := rest, cur := some (k, v) }
def detP (R : Caller) (lim : Nat) (o : AOper) (s : PSt) (K : PSt → Prop) : Prop := ∃ s1, execOp R lim o ⟨s.tmps, s.H⟩ = some s1 ∧ K ⟨s1.tmps, s1.H, s.it⟩
def callP (RP : CallerP) (lim0 lim : Nat) (o : AOper) (f : FuncId) (args : List AVal) (s : PSt) (K : PSt → Prop) : Prop :=
 o.guard = none ∧ s.it = none ∧ RP lim0 lim (.fn f) args s.H fun v H' => K ⟨putT s.tmps o.dst v, H', none⟩
def opP (R : Caller) (RP : CallerP) (lim0 lim : Nat) (o : AOper) (s : PSt) (K : PSt → Prop) : Prop :=
 match o.op with
 | .mapRange x => o.guard = none ∧ s.it = none ∧
  match St.ev s.tmps x with
  | .map none => ∀ r, K ⟨putT s.tmps o.dst (.itr r), s.H, some ⟨r, none, [], none⟩⟩
  | .map (some b) => ∃ es clock, s.H.get b = some (.map es clock) ∧ b < lim ∧ ∀ r, K ⟨putT s.tmps o.dst (.itr r), s.H, some ⟨r, some b, es, none⟩⟩
  | _ => False
 | .mapNext x => o.guard = none ∧ ∃ it, s.it = some it ∧ St.ev s.tmps x = .itr it.r ∧ it.step fun v it' => K ⟨putT s.tmps o.dst v, s.H, some it'⟩
 | .mapEntry x => o.guard = none ∧ ∃ it k v, s.it = some it ∧ St.ev s.tmps x = .itr it.r ∧ it.cur = some (k, v) ∧ K ⟨putT s.tmps o.dst (.tup [k, v]), s.H, s.it⟩
 | .mapDelete g ls m k => detP R lim o s K ∨ (o.guard = none ∧ ∃ it b H', s.it = some it ∧ it.m = some b ∧ St.ev s.tmps m = .map (some b) ∧ amapDelete lim0 s.H g ls (St.ev s.tmps m) (St.ev s.tmps k) = some H' ∧
   (∀ e ∈ it.left, isKey g ls (St.ev s.tmps k) e = false) ∧ K ⟨putT s.tmps o.dst und, H', some { it with cur := none }⟩)
 | .call f args => detP R lim o s K ∨ callP RP lim0 lim o f (args.map (St.ev s.tmps)) s K
 | .callv x args => detP R lim o s K ∨ (match St.ev s.tmps x with
   | .fn f first captured => callP RP lim0 lim o f (first ++ args.map (St.ev s.tmps) ++ captured) s K
   | _ => False)
 | _ => detP R lim o s K
def opsP (R : Caller) (RP : CallerP) (lim0 lim : Nat) : List AOper → PSt → (PSt → Prop) → Prop
 | [], s, K => K s
 | o :: os, s, K => opP R RP lim0 lim o s fun s => opsP R RP lim0 lim os s K
def Aop.settled : Aop → Bool
 | .mapRange _ | .mapNext _ | .mapEntry _ | .mapDelete _ _ _ _ | .call _ _ | .callv _ _ => false
 | _ => true
abbrev KP := Ex → PSt → Prop
def loopP (body : PSt → KP → Prop) : Nat → PSt → KP → Prop
 | 0, _, _ => False
 | n + 1, s, K => body s fun ex s => match ex with
  | .norm => loopP body n s K
  | ex => K ex s
def hard (ops : List AOper) : Bool := ops.any fun o => o.bar || !o.apart.isEmpty
def execP (R : Caller) (RP : CallerP) (lim0 lim n : Nat) : ACode → PSt → KP → Prop
 | .skip, s, K => K .norm s
 | .region ops, s, K => (∃ s1, execOps R lim ops ⟨s.tmps, s.H⟩ = some s1 ∧ K .norm ⟨s1.tmps, s1.H, s.it⟩) ∨ (hard ops = false ∧ opsP R RP lim0 lim ops s fun s => K .norm s)
 | .seq a b, s, K => execP R RP lim0 lim n a s fun ex s => match ex with
  | .norm => execP R RP lim0 lim n b s K
  | ex => K ex s
 | .cond c a b, s, K => ∃ t, St.ev s.tmps c = .bool t ∧ (t = true → execP R RP lim0 lim n a s K) ∧ (t = false → execP R RP lim0 lim n b s K)
 | .block id body, s, K => execP R RP lim0 lim n body s fun ex s => match ex with
  | .exit id' => if id' = id then K .norm s else K (.exit id') s
  | ex => K ex s
 | .loop body, s, K => loopP (execP R RP lim0 lim n body) n s K
 | .exit id, s, K => K (.exit id) s
 | .ret, s, K => K .ret s
 | .ranges g ps asg body, s, K => (asg.plain && body.plain) = true ∧ s.it = none ∧
  match St.ev s.tmps g with
  | .fn f first captured => RP lim0 lim (.fn f) (first ++ [.yl s.H.next] ++ captured) (s.H.push (.loop ⟨.ready, none, s.tmps, ps, asg, body⟩)) fun _ H' =>
   match H'.get s.H.next with
   | some (.loop ⟨.ready, none, _, _, _, _⟩) => K .norm ⟨s.tmps, H'.set s.H.next .dead, none⟩
   | some (.loop ⟨.done, some e, _, _, _, _⟩) => K e ⟨s.tmps, H'.set s.H.next .dead, none⟩
   | _ => False
  | _ => False
def funP (R : Caller) (RP : CallerP) (lim0 lim n : Nat) (af : AFunc) (args : List AVal) (H : Heap) (K : AVal → Heap → Prop) : Prop :=
 execP R RP lim0 lim n af.body ⟨enterF af args, H, none⟩ fun ex s => (∀ id, ex ≠ .exit id) ∧ ∃ v, leaveF af ⟨s.tmps, s.H⟩ = some (v, s.H) ∧ K v s.H
def runP (ap : FuncId → Option AFn) (dp : FuncId → Option AFunc) : Nat → CallerP
 | 0, _, _, _, _, _, _ => False
 | n + 1, lim0, lim, tg, args, H, K =>
  (∃ v H', runT ap (n + 1) lim tg args H = some (v, H') ∧ K v H') ∨ (∃ f af, tg = .fn f ∧ dp f = some af ∧ funP (runT ap n) (runP ap dp n) lim0 lim n af args H K)
section
variable {P : Program} {B n0 lim0 lim s0 : Nat} {R : Caller} {RP : CallerP}
structure InvP (P : Program) (B n0 lim0 lim s0 : Nat) (ρ : Mp) (H : Heap) (w : World) : Prop where
 rel : Rel P n0 ρ H w
 l0 : n0 ≤ lim0
 l1 : lim0 ≤ lim
 l2 : lim ≤ H.next
 fresh : ∀ b, H.next ≤ b → b < B → ρ b = none
 young : ∀ b L, lim ≤ b → b < H.next → ρ b = some L → s0 ≤ L.blk
 old : ∀ b L, b < lim → ρ b = some L → L.blk < s0
 size : s0 ≤ w.heap.size
def ItRel (base s0 : Nat) (ρ : Mp) (w : World) (it : ItA) : Prop :=
 base ≤ it.r ∧ it.r < w.heap.size ∧ (∀ b L, ρ b = some L → L.blk ≠ it.r) ∧
 match it.m with
 | none => it.left = [] ∧ it.cur = none ∧ w.heap[it.r]? = some (.mapIter none 0 #[] 0)
 | some m => ∃ L since seen es, ρ m = some L ∧ L.blk < s0 ∧ w.heap[it.r]? = some (.mapIter (some L.blk) since seen since) ∧ w.heap[L.blk]? = some (.map es since) ∧
   (es.toList.map (·.born)).Nodup ∧ (∀ e ∈ es.toList, e.born < since) ∧ (∃ l, l.Perm it.left ∧ ERel ρ l (leftOf es seen).toList) ∧
   ∀ k v, it.cur = some (k, v) → ∃ (seen0 : Array Nat) (e : MapEntry), seen = seen0.push e.born ∧ e ∈ es.toList ∧ VRel ρ k e.key ∧ VRel ρ v e.val
def OItRel (base s0 : Nat) (ρ : Mp) (w : World) : Option ItA → Prop
 | none => True
 | some it => ItRel base s0 ρ w it
theorem InvP.post {ρ ρ' : Mp} {H H' : Heap} {w w' : World} (h : InvP P B n0 lim0 lim s0 ρ H w) (hp : Post P n0 lim ρ H w ρ' H' w') (hB : H'.next ≤ B) : InvP P B n0 lim0 lim s0 ρ' H' w' := by
 have hn : ∀ b L, ρ' b = some L → ρ b = some L ∨ (ρ b = none ∧ H.next ≤ b ∧ b < H'.next ∧ s0 ≤ L.blk) := by
  intro b L e
  cases hb : ρ b with
  | some L0 =>
   have := hp.ext b L0 hb
   rw [e] at this; simp at this; subst this; exact .inl rfl
  | none =>
   obtain ⟨g1, g2, g3⟩ := hp.new b L hb e
   refine .inr ⟨rfl, g1, g2, ?_⟩
   rcases g3 with g3 | ⟨b0, L0, q1, q2, q3, q4⟩
   ·have := h.size; omega
   ·rw [← q4]; exact h.young b0 L0 q1 q2 q3
 refine ⟨hp.rel, h.l0, h.l1, Nat.le_trans h.l2 hp.next, fun b hb hB => ?_, fun b L hb hb2 e => ?_, fun b L hb e => ?_, Nat.le_trans h.size hp.size⟩
 ·cases hb' : ρ' b with
  | none => rfl
  | some L =>
   rcases hn b L hb' with e | ⟨_, _, g, _⟩
   ·rw [h.fresh b (Nat.le_trans hp.next hb) hB] at e; simp at e
   ·omega
 ·rcases hn b L e with e | ⟨_, _, _, g⟩
  ·rcases Nat.lt_or_ge b H.next with q | q
   ·exact h.young b L hb q e
   ·rw [h.fresh b q (by omega)] at e; simp at e
  ·exact g
 ·rcases hn b L e with e | ⟨_, g, _, _⟩
  ·exact h.old b L hb e
  ·have := h.l2; omega
theorem ItRel.post {ρ ρ' : Mp} {H H' : Heap} {w w' : World} {it : ItA} {base : Nat} (h : InvP P B n0 lim0 lim s0 ρ H w) (hi : ItRel base s0 ρ w it) (hp : Post P n0 lim ρ H w ρ' H' w') : ItRel base s0 ρ' w' it := by
 obtain ⟨h1, h2, h3, h4⟩ := hi
 have hr : w'.heap[it.r]? = w.heap[it.r]? := hp.frame _ h2 fun b L _ _ e => h3 b L e
 refine ⟨h1, Nat.lt_of_lt_of_le h2 hp.size, fun b L e => ?_, ?_⟩
 ·cases hb : ρ b with
  | some L0 =>
   have := hp.ext b L0 hb
   rw [e] at this; simp at this; subst this; exact h3 b L hb
  | none =>
   rcases (hp.new b L hb e).2.2 with q | ⟨b0, L0, _, _, q3, q4⟩
   ·omega
   ·rw [← q4]; exact h3 b0 L0 q3
 ·cases hm : it.m with
  | none =>
   rw [hm] at h4
   exact ⟨h4.1, h4.2.1, hr.trans h4.2.2⟩
  | some m =>
   rw [hm] at h4
   obtain ⟨L, since, seen, es, g1, g2, g3, g4, g5, g6, ⟨l, g7, g8⟩, g9⟩ := h4
   have hb : w'.heap[L.blk]? = w.heap[L.blk]? := hp.frame _ (heap_lt g4) fun b L' hb hb2 e => by have := h.young b L' hb hb2 e; omega
   exact ⟨L, since, seen, es, hp.ext _ _ g1, g2, hr.trans g3, hb.trans g4, g5, g6, ⟨l, g7, g8.ext hp.ext⟩, fun k v e => by
    obtain ⟨s0, e0, q1, q2, q3, q4⟩ := g9 k v e
    exact ⟨s0, e0, q1, q2, q3.ext hp.ext, q4.ext hp.ext⟩⟩
theorem OItRel.post {ρ ρ' : Mp} {H H' : Heap} {w w' : World} {it : Option ItA} {base : Nat} (h : InvP P B n0 lim0 lim s0 ρ H w) (hi : OItRel base s0 ρ w it) (hp : Post P n0 lim ρ H w ρ' H' w') : OItRel base s0 ρ' w' it := by
 cases it with
 | none => trivial
 | some it => exact ItRel.post h hi hp
def CallSimP (P : Program) (RP : CallerP) : Prop :=
 ∀ (lim0 lim : Nat) (tg : Tgt) (args : List AVal) (H : Heap) (K : AVal → Heap → Prop), RP lim0 lim tg args H K → ∀ (f : FuncId), tg = .fn f →
  (∃ fn, P.funcs[f]? = some fn ∧ fn.body.isSome = true ∧ (fn.name == "runtime.NumGoroutine") = false) ∧
  ∀ (B n0 s0 : Nat) (ρ : Mp) (w : World) (args' : Array Value), (∀ v H', H.next ≤ H'.next → K v H' → H'.next ≤ B) → InvP P B n0 lim0 lim s0 ρ H w → LRel ρ args args'.toList →
   Calls P f args' w fun e w' => ∃ v' ρ' v H', e = .returned v' ∧ K v H' ∧ VRel ρ' v v' ∧ Post P n0 lim0 ρ H w ρ' H' w' ∧ InvP P B n0 lim0 lim s0 ρ' H' w'
structure StP (P : Program) (B n0 lim0 lim s0 : Nat) (ρe : Mp) (He : Heap) (we : World) (s : PSt) (ρ : Mp) (a : Act) (w : World) : Prop where
 post : Post P n0 lim0 ρe He we ρ s.H w
 inv : InvP P B n0 lim0 lim s0 ρ s.H w
 tmps : LRel ρ s.tmps a.tmps.toList
 it : OItRel we.heap.size s0 ρ w s.it
 marks : Marks we.heap.size ρ w a.defers
def settledR (P : Program) (ops : Array Oper) (draw : Bool) : Bool := !draw || (match compRegion P ops draw with
 | some l => hard l || l.all fun o => o.op.settled
 | none => false)
def settledC (P : Program) : Code → Bool
 | .region _ ops draw => settledR P ops draw
 | .seq a b => settledC P a && settledC P b
 | .cond _ a b => settledC P a && settledC P b
 | .block _ c => settledC P c
 | .loop c => settledC P c
 | _ => true
theorem leftOf_push (es : Array MapEntry) (seen : Array Nat) (e : MapEntry) : (leftOf es (seen.push e.born)).toList = (leftOf es seen).toList.filter fun x => !(x.born == e.born) := by
 unfold leftOf
 rw [Array.toList_filter, Array.toList_filter, List.filter_filter]
 refine List.filter_congr fun x _ => ?_
 rw [Array.contains_push]
 cases (x.born == e.born) <;> cases seen.contains x.born <;> simp
end
end Go.Ahs
