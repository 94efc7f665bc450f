/- Going through drawn code by hand. -/
import Derived.Test.YtnlimogbokkfpaaGreatChsP5
import Derived.Test.YtnlimogbokkfpaaGreatChsW3
set_option linter.unusedSimpArgs false
set_option linter.unusedVariables false
namespace Go.Ahs
section
variable {R : Caller} {RP : CallerP} {lim0 lim n : Nat}
theorem execP_reg {ops : List AOper} {s : PSt} {K : KP} (h : opsP R RP lim0 lim ops s fun s => K .norm s) (hh : hard ops = false := by rfl) : execP R RP lim0 lim n (.region ops) s K := .inr ⟨hh, h⟩
theorem execP_skip {s : PSt} {K : KP} (h : K .norm s) : execP R RP lim0 lim n .skip s K := h
theorem execP_exit {id : Nat} {s : PSt} {K : KP} (h : K (.exit id) s) : execP R RP lim0 lim n (.exit id) s K := h
theorem execP_seq {a b : ACode} {s : PSt} {K : KP} (h : execP R RP lim0 lim n a s fun ex s => match ex with
  | .norm => execP R RP lim0 lim n b s K
  | ex => K ex s) : execP R RP lim0 lim n (.seq a b) s K := h
theorem execP_block {id : Nat} {b : ACode} {s : PSt} {K : KP} (h : execP R RP lim0 lim n b s fun ex s => match ex with
  | .exit id' => if id' = id then K .norm s else K (.exit id') s
  | ex => K ex s) : execP R RP lim0 lim n (.block id b) s K := h
theorem execP_cond {c : Opd} {a b : ACode} {s : PSt} {K : KP} (t : Bool) (hc : St.ev s.tmps c = .bool t) (h1 : t = true → execP R RP lim0 lim n a s K) (h2 : t = false → execP R RP lim0 lim n b s K) : execP R RP lim0 lim n (.cond c a b) s K := ⟨t, hc, h1, h2⟩
theorem det1 {o : AOper} {s : PSt} {K : PSt → Prop} {v : AVal} {H' : Heap} (hg : o.guard = none) (ha : o.apart = []) (hb : o.bar = false) (h : step R lim (St.ev s.tmps) s.H o.op = some (v, H')) (hk : K ⟨putT s.tmps o.dst v, H', s.it⟩) : detP R lim o s K := by
 refine ⟨⟨putT s.tmps o.dst v, H'⟩, ?_, hk⟩
 unfold execOp
 simp only [hg, wantedA, if_true, AOper.clear, ha, Bool.not_true, Bool.false_eq_true, if_false, hb, h]
theorem detv {o : AOper} {s : PSt} {K : PSt → Prop} {v : AVal} (hg : o.guard = none) (ha : o.apart = []) (hb : o.bar = false) {r : Option AVal} (ho : step R lim (St.ev s.tmps) s.H o.op = val s.H r) (hr : r = some v) (hk : K ⟨putT s.tmps o.dst v, s.H, s.it⟩) : detP R lim o s K :=
 det1 hg ha hb (by rw [ho, hr]; rfl) hk
theorem detst {o : AOper} {s : PSt} {K : PSt → Prop} {k : Nat} {a x : Opd} {H' : Heap} (hop : o.op = .store k a x) (hg : o.guard = none) (ha : o.apart = []) (hb : o.bar = false) (h : astore lim s.H k (St.ev s.tmps a) (St.ev s.tmps x) = some H') (hk : K ⟨putT s.tmps o.dst und, H', s.it⟩) : detP R lim o s K :=
 det1 hg ha hb (by rw [hop]; simp only [step, h, Option.map_some]) hk
theorem opsP_nil {s : PSt} {K : PSt → Prop} (h : K s) : opsP R RP lim0 lim [] s K := h
theorem opsP_det {o : AOper} {os : List AOper} {s : PSt} {K : PSt → Prop} (hs : o.op.settled = true) (h : detP R lim o s fun s => opsP R RP lim0 lim os s K) : opsP R RP lim0 lim (o :: os) s K := by
 unfold opsP opP
 split <;> first | exact h | (rename_i e; rw [e] at hs; simp [Aop.settled] at hs)
theorem opsP_v {o : AOper} {os : List AOper} {s : PSt} {K : PSt → Prop} {v : AVal} (hs : o.op.settled = true) (hg : o.guard = none) (ha : o.apart = []) (hb : o.bar = false) (r : Option AVal) (ho : step R lim (St.ev s.tmps) s.H o.op = val s.H r) (hr : r = some v) (hk : opsP R RP lim0 lim os ⟨putT s.tmps o.dst v, s.H, s.it⟩ K) : opsP R RP lim0 lim (o :: os) s K :=
 opsP_det hs (detv hg ha hb ho hr hk)
theorem opsP_1 {o : AOper} {os : List AOper} {s : PSt} {K : PSt → Prop} {v : AVal} {H' : Heap} (hs : o.op.settled = true) (hg : o.guard = none) (ha : o.apart = []) (hb : o.bar = false) (h : step R lim (St.ev s.tmps) s.H o.op = some (v, H')) (hk : opsP R RP lim0 lim os ⟨putT s.tmps o.dst v, H', s.it⟩ K) : opsP R RP lim0 lim (o :: os) s K :=
 opsP_det hs (det1 hg ha hb h hk)
theorem opsP_st {o : AOper} {os : List AOper} {s : PSt} {K : PSt → Prop} {k : Nat} {a x : Opd} {H' : Heap} (hop : o.op = .store k a x) (hg : o.guard = none) (ha : o.apart = []) (hb : o.bar = false) (h : astore lim s.H k (St.ev s.tmps a) (St.ev s.tmps x) = some H') (hk : opsP R RP lim0 lim os ⟨putT s.tmps o.dst und, H', s.it⟩ K) : opsP R RP lim0 lim (o :: os) s K :=
 opsP_det (by rw [hop]; rfl) (detst hop hg ha hb h hk)
theorem execP_gen {c : ACode} {s : PSt} {K : KP} (Q : List AVal → Prop) (H : Heap) (it : Option ItA) (hQ : Q s.tmps) (hH : s.H = H) (hi : s.it = it) (h : ∀ T, Q T → execP R RP lim0 lim n c ⟨T, H, it⟩ K) : execP R RP lim0 lim n c s K := by
 subst hH hi
 exact h _ hQ
theorem opsP_call {o : AOper} {os : List AOper} {s : PSt} {K : PSt → Prop} {f : FuncId} {args : List Opd} (hop : o.op = .call f args) (hg : o.guard = none) (hi : s.it = none)
  (h : RP lim0 lim (.fn f) (args.map (St.ev s.tmps)) s.H fun v H' => opsP R RP lim0 lim os ⟨putT s.tmps o.dst v, H', none⟩ K) : opsP R RP lim0 lim (o :: os) s K := by
 unfold opsP opP
 rw [hop]
 exact .inr ⟨hg, hi, h⟩
theorem opsP_calld {o : AOper} {os : List AOper} {s : PSt} {K : PSt → Prop} {f : FuncId} {args : List Opd} {v : AVal} {H' : Heap} (hop : o.op = .call f args) (hg : o.guard = none) (ha : o.apart = []) (hb : o.bar = false)
  (h : R lim (.fn f) (args.map (St.ev s.tmps)) s.H = some (v, H')) (hk : opsP R RP lim0 lim os ⟨putT s.tmps o.dst v, H', s.it⟩ K) : opsP R RP lim0 lim (o :: os) s K := by
 unfold opsP opP
 rw [hop]
 refine .inl (det1 hg ha hb ?_ hk)
 rw [hop]
 exact h
theorem opsP_cally {o : AOper} {os : List AOper} {s : PSt} {K : PSt → Prop} {x : Opd} {args : List Opd} {b : Nat} {v : AVal} {H' : Heap} (hop : o.op = .callv x args) (hg : o.guard = none) (ha : o.apart = []) (hb : o.bar = false)
  (hx : St.ev s.tmps x = .yl b) (h : R lim (.yl b) (args.map (St.ev s.tmps)) s.H = some (v, H')) (hk : opsP R RP lim0 lim os ⟨putT s.tmps o.dst v, H', s.it⟩ K) : opsP R RP lim0 lim (o :: os) s K := by
 unfold opsP opP
 rw [hop]
 refine .inl (det1 hg ha hb ?_ hk)
 rw [hop]
 simp only [step, hx, h]
def rngK (K : KP) (s1 : PSt) (o : Option Blk) : Prop :=
 match o with
   | some (.loop ⟨.ready, none, _, _, _, _⟩) => K .norm s1
   | some (.loop ⟨.done, some e, _, _, _, _⟩) => K e s1
   | _ => False
theorem execP_ranges {g : Opd} {ps : List Nat} {asg body : ACode} {s : PSt} {K : KP} {f : FuncId} {first captured : List AVal} (hp : (asg.plain && body.plain) = true) (hi : s.it = none) (hg : St.ev s.tmps g = .fn f first captured)
  (h : RP lim0 lim (.fn f) (first ++ [.yl s.H.next] ++ captured) (s.H.push (.loop ⟨.ready, none, s.tmps, ps, asg, body⟩)) fun _ H' => rngK K ⟨s.tmps, H'.set s.H.next .dead, none⟩ (H'.get s.H.next)) : execP R RP lim0 lim n (.ranges g ps asg body) s K := by
 refine ⟨hp, hi, ?_⟩
 rw [hg]
 exact h
theorem rng_ready {K : KP} {s1 : PSt} {o : Option Blk} {T : List AVal} {ps : List Nat} {a c : ACode} (h : o = some (.loop ⟨.ready, none, T, ps, a, c⟩)) (hk : K .norm s1) : rngK K s1 o := by
 subst h; exact hk
theorem runP_fun {ap : FuncId → Option AFn} {dp : FuncId → Option AFunc} {f : FuncId} {af : AFunc} {args : List AVal} {H : Heap} {K : AVal → Heap → Prop} (hf : dp f = some af) (h : funP (runT ap n) (runP ap dp n) lim0 lim n af args H K) : runP ap dp (n + 1) lim0 lim (.fn f) args H K :=
 .inr ⟨f, af, rfl, hf, h⟩
theorem x_reg {ops : List AOper} {s s1 : St} (h : execOps R lim ops s = some s1) : exec R lim n (.region ops) s = some (.norm, s1) := by
 simp only [exec, h, Option.map_some]
theorem x_block {id : Nat} {b : ACode} {s s1 : St} (h : exec R lim n b s = some (.norm, s1)) : exec R lim n (.block id b) s = some (.norm, s1) := by
 simp only [exec, h]
theorem x_round {ex : ACode → St → Option (Ex × St)} {b : Nat} {args : List AVal} {H : Heap} {st : LoopState} {q0 q : Option Ex} {T t : List AVal} {ps ps' : List Nat} {asg body a' c' : ACode} {s1 s2 : St} {r2 : LoopA} (h0 : H.get b = some (.loop ⟨st, q0, T, ps, asg, body⟩)) (hl : lim ≤ b) (ha : args.length = ps.length) (h1 : ex asg ⟨putAll T ps args, H⟩ = some (.norm, s1))
  (h2 : s1.H.get b = some (.loop ⟨.ready, q, t, ps', a', c'⟩)) (h3 : ex body ⟨s1.tmps, s1.H.set b (.loop ⟨.busy, q, t, ps', a', c'⟩)⟩ = some (.norm, s2)) (h4 : s2.H.get b = some (.loop r2)) :
  roundF ex lim b args H = some (.bool true, s2.H.set b (.loop { r2 with state := .ready, pending := none })) := by
 simp only [roundF, h0]
 rw [if_pos ⟨hl, ha⟩]
 simp only [h1, h2, h3, h4]
theorem opsP_callv {o : AOper} {os : List AOper} {s : PSt} {K : PSt → Prop} {x : Opd} {args : List Opd} {f : FuncId} {first captured : List AVal} {v : AVal} {H' : Heap} (hop : o.op = .callv x args) (hg : o.guard = none) (ha : o.apart = []) (hb : o.bar = false)
  (hx : St.ev s.tmps x = .fn f first captured) (h : R lim (.fn f) (first ++ args.map (St.ev s.tmps) ++ captured) s.H = some (v, H')) (hk : opsP R RP lim0 lim os ⟨putT s.tmps o.dst v, H', s.it⟩ K) : opsP R RP lim0 lim (o :: os) s K := by
 unfold opsP opP
 rw [hop]
 refine .inl (det1 hg ha hb ?_ hk)
 rw [hop]
 simp only [step, hx, h]
theorem opsP_del {o : AOper} {os : List AOper} {s : PSt} {K : PSt → Prop} {g : Bool} {ls : List Leaf} {m k : Opd} {it : ItA} {b : Nat} {H' : Heap} (hop : o.op = .mapDelete g ls m k) (hg : o.guard = none) (hi : s.it = some it) (hb : it.m = some b) (hm : St.ev s.tmps m = .map (some b))
  (h : amapDelete lim0 s.H g ls (St.ev s.tmps m) (St.ev s.tmps k) = some H') (hl : ∀ e ∈ it.left, isKey g ls (St.ev s.tmps k) e = false) (hk : opsP R RP lim0 lim os ⟨putT s.tmps o.dst und, H', some { it with cur := none }⟩ K) : opsP R RP lim0 lim (o :: os) s K := by
 unfold opsP opP
 rw [hop]
 exact .inr ⟨hg, it, b, H', hi, hb, hm, h, hl, hk⟩
theorem opsP_next {o : AOper} {os : List AOper} {s : PSt} {K : PSt → Prop} {x : Opd} {it : ItA} (hop : o.op = .mapNext x) (hg : o.guard = none) (hi : s.it = some it) (hx : St.ev s.tmps x = .itr it.r)
  (h0 : it.left = [] → opsP R RP lim0 lim os ⟨putT s.tmps o.dst (.tup [.bool false]), s.H, some it⟩ K)
  (h1 : ∀ k v rest, it.left.Perm ((k, v) :: rest) → opsP R RP lim0 lim os ⟨putT s.tmps o.dst (.tup [.bool true, k, v]), s.H, some { it with left := rest, cur := some (k, v) }⟩ K) : opsP R RP lim0 lim (o :: os) s K := by
 unfold opsP opP
 rw [hop]
 exact ⟨hg, it, hi, hx, h0, h1⟩
theorem opsP_entry {o : AOper} {os : List AOper} {s : PSt} {K : PSt → Prop} {x : Opd} {it : ItA} {k v : AVal} (hop : o.op = .mapEntry x) (hg : o.guard = none) (hi : s.it = some it) (hx : St.ev s.tmps x = .itr it.r) (hc : it.cur = some (k, v))
  (hk : opsP R RP lim0 lim os ⟨putT s.tmps o.dst (.tup [k, v]), s.H, s.it⟩ K) : opsP R RP lim0 lim (o :: os) s K := by
 unfold opsP opP
 rw [hop]
 exact ⟨hg, it, k, v, hi, hx, hc, hk⟩
theorem opsP_range {o : AOper} {os : List AOper} {s : PSt} {K : PSt → Prop} {x : Opd} {m : AVal} (hop : o.op = .mapRange x) (hg : o.guard = none) (hi : s.it = none) (hm : St.ev s.tmps x = m) (es : List (AVal × AVal)) (hes : (m = .map none ∧ es = []) ∨ ∃ b clock, m = .map (some b) ∧ s.H.get b = some (.map es clock) ∧ b < lim)
  (h : ∀ r mb, m = .map mb → opsP R RP lim0 lim os ⟨putT s.tmps o.dst (.itr r), s.H, some ⟨r, mb, es, none⟩⟩ K) : opsP R RP lim0 lim (o :: os) s K := by
 unfold opsP opP
 rw [hop]
 refine ⟨hg, hi, ?_⟩
 rw [hm]
 rcases hes with ⟨e1, e2⟩ | ⟨b, clock, e1, e2, e3⟩
 ·subst e1 e2
  exact fun r => h r _ rfl
 ·subst e1
  exact ⟨es, clock, e2, e3, fun r => h r _ rfl⟩
theorem x_1 {o : AOper} {os : List AOper} {s : St} {X : Option St} {v : AVal} {H' : Heap} (hg : o.guard = none) (ha : o.apart = []) (hb : o.bar = false) (h : step R lim (St.ev s.tmps) s.H o.op = some (v, H')) (hk : execOps R lim os ⟨putT s.tmps o.dst v, H'⟩ = X) : execOps R lim (o :: os) s = X := by
 rw [← hk]
 unfold execOps execOp
 simp only [hg, wantedA, if_true, AOper.clear, ha, Bool.not_true, Bool.false_eq_true, if_false, hb, h]
 cases os <;> rfl
theorem x_v {o : AOper} {os : List AOper} {s : St} {X : Option St} {v : AVal} (hg : o.guard = none) (ha : o.apart = []) (hb : o.bar = false) (r : Option AVal) (ho : step R lim (St.ev s.tmps) s.H o.op = val s.H r) (hr : r = some v) (hk : execOps R lim os ⟨putT s.tmps o.dst v, s.H⟩ = X) : execOps R lim (o :: os) s = X :=
 x_1 hg ha hb (by rw [ho, hr]; rfl) hk
theorem x_nil {s : St} : execOps R lim [] s = some s := rfl
theorem x_seq {ops : List AOper} {b : ACode} {s s1 : St} {X : Option (Ex × St)} (h : execOps R lim ops s = some s1) (hk : exec R lim n b s1 = X) : exec R lim n (.seq (.region ops) b) s = X := by
 rw [← hk]
 simp only [exec, h, Option.map_some]
theorem x_fun {ap : FuncId → Option AFn} {f : FuncId} {af : AFunc} {args : List AVal} {H : Heap} {s : St} {v : AVal} (hf : ap f = some (.code af)) (h : exec (runT ap n) lim n af.body ⟨enterF af args, H⟩ = some (.ret, s)) (hv : leaveF af s = some (v, s.H)) : runT ap (n + 1) lim (.fn f) args H = some (v, s.H) := by
 simp only [runT, hf, h, hv]
theorem step_box {ev : Opd → AVal} {H : Heap} {x : Opd} {cs : List AVal} (h : (ev x).cells = cs) (h1 : cs.all (·.one) = true) : step R lim ev H (.box x) = some (.ptr (some (H.next, 0)), H.push (.cells cs)) := by
 simp only [step, h, h1, if_true]
end
end Go.Ahs
