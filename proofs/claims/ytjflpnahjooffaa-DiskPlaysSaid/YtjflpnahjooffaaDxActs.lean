/- The disk's acts, as they are handed in; what is done. -/
import Derived.Test.YtjflpnahjooffaaDxOps4
import Derived.Test.YtjflpnahjooffaaChsX3
set_option maxRecDepth 100000
set_option linter.unusedVariables false
set_option linter.unusedSimpArgs false
namespace Go.Proofs.Ytjflpnahjooffaa.disk
open Go.Ahs

structure ActAt (H : Heap) (x : List AVal) (p : PAct) : Prop where
  ex : ∃ ks ts, x = [.int .u8 p.act, .str p.a, .str p.b, .int .i64 p.n, ks, ts] ∧ Sl H 1 ks (encI p.keep) ∧ Sl H 1 ts (encI p.torn) ∧ ks.one = true ∧ ts.one = true
  n : inI64 p.n
  keep : ∀ y ∈ p.keep, inI64 y
  torn : ∀ y ∈ p.torn, inI64 y

structure ActsAt (H : Heap) (v : AVal) (l : List PAct) : Prop where
  len : l.length ≤ maxLen
  ex : ∃ xs, Sl H 6 v xs ∧ l.length = xs.length ∧ ∀ (i : Nat) x p, xs[i]? = some x → l[i]? = some p → ActAt H x p

def crashTy : Ty := .slice (.int .i64 .nil) (.slice (.int .i64 .nil) .nil)
def actTy : Ty := .int .u8 (.str (.str (.int .i64 crashTy)))

theorem ActAt.keepH {H H' : Heap} (hk : Keeps2 H H') {x : List AVal} {p : PAct} (h : ActAt H x p) : ActAt H' x p := by
  obtain ⟨ks, ts, h1, h2, h3, h4, h5⟩ := h.ex
  exact ⟨⟨ks, ts, h1, h2.keep hk, h3.keep hk, h4, h5⟩, h.n, h.keep, h.torn⟩
theorem ActsAt.keepH {H H' : Heap} (hk : Keeps2 H H') {v : AVal} {l : List PAct} (h : ActsAt H v l) : ActsAt H' v l := by
  obtain ⟨xs, h1, h2, h3⟩ := h.ex
  exact ⟨h.len, xs, h1.keep hk, h2, fun i x p e e' => (h3 i x p e e').keepH hk⟩

theorem wf_ints {H : Heap} {v : AVal} (h : ∃ xs, Sl H 1 v xs ∧ xs.length ≤ maxLen ∧ ∀ x ∈ xs, Wf H (.int .i64 .nil) x) : ∃ l : List Int, Sl H 1 v (encI l) ∧ ∀ y ∈ l, inI64 y := by
  obtain ⟨xs, h1, h2, h3⟩ := h
  obtain ⟨l, hl, hq⟩ := wf_list (α := Int) (Q := fun x a => x = [.int .i64 a] ∧ inI64 a) (fun x hx => by
    obtain ⟨n, vs', rfl, hn, rfl⟩ := hx
    have := wfI64 hn
    exact ⟨n, rfl, by unfold inI64; omega⟩) h3
  have e := wf_eqs (enc := fun a => [.int .i64 a]) hl fun i x a e1 e2 => (hq i x a e1 e2).1
  refine ⟨l, by unfold encI; rw [← e]; exact h1, fun y hy => ?_⟩
  obtain ⟨i, hi, rfl⟩ := List.getElem_of_mem hy
  exact (hq i xs[i] l[i] (List.getElem?_eq_getElem (by omega)) (List.getElem?_eq_getElem hi)).2

theorem wf_crash {H : Heap} {x : List AVal} (h : Wf H crashTy x) : ∃ ks ts keep torn, x = [ks, ts] ∧ Sl H 1 ks (encI keep) ∧ Sl H 1 ts (encI torn) ∧ ks.one = true ∧ ts.one = true ∧ (∀ y ∈ keep, inI64 y) ∧ ∀ y ∈ torn, inI64 y := by
  obtain ⟨ks, _, rfl, o1, s1, ts, _, rfl, o2, s2, rfl⟩ := h
  obtain ⟨keep, k1, k2⟩ := wf_ints s1
  obtain ⟨torn, t1, t2⟩ := wf_ints s2
  exact ⟨ks, ts, keep, torn, rfl, k1, t1, o1, o2, k2, t2⟩

theorem wf_act {H : Heap} {x : List AVal} (h : Wf H actTy x) : ∃ p : PAct, ActAt H x p := by
  obtain ⟨d, _, rfl, hd, a, _, rfl, ha, b, _, rfl, hb, n, _, rfl, hn, hc⟩ := h
  obtain ⟨ks, ts, keep, torn, rfl, k1, t1, o1, o2, k2, t2⟩ := wf_crash hc
  have := wfI64 hn
  exact ⟨⟨d, a, b, n, keep, torn⟩, ⟨ks, ts, rfl, k1, t1, o1, o2⟩, by unfold inI64; show _ ≤ n ∧ n < _; omega, k2, t2⟩

theorem wf_acts {H : Heap} {v : AVal} (h : Wf H (.slice actTy .nil) [v]) : ∃ l : List PAct, ActsAt H v l := by
  obtain ⟨v', _, e, _, ⟨xs, h1, h2, h3⟩, _⟩ := h
  simp only [List.cons.injEq] at e
  obtain ⟨rfl, _⟩ := e
  obtain ⟨l, hl, hq⟩ := wf_list (fun x hx => wf_act hx) h3
  exact ⟨l, by rw [hl]; exact h2, xs, h1, hl, hq⟩

section
variable {M : Nat → Prop} {H : Heap} {b m : Nat} {D : Dsk}

theorem ActsAt.alen {v : AVal} {l : List PAct} (h : ActsAt H v l) : Ahs.alen false v = some (.int .i64 (l.length : Int)) := by
  obtain ⟨xs, h1, h2, _⟩ := h.ex
  rw [h1.len, h2]

/-- The i-th act. -/
theorem ActsAt.at' {v : AVal} {l : List PAct} (h : ActsAt H v l) {i : Nat} {p : PAct} (hp : l[i]? = some p) : ∃ q ks ts, aindexAddr none 6 v (.int .i64 (i : Int)) = some q ∧ aload H (some 6) q = some (.agg [.int .u8 p.act, .str p.a, .str p.b, .int .i64 p.n, ks, ts]) ∧ ActAt H [.int .u8 p.act, .str p.a, .str p.b, .int .i64 p.n, ks, ts] p ∧
    ∃ o bq, q = .ptr (some (bq, o)) ∧ (∀ f, f < 6 → aload H none (.ptr (some (bq, o + f))) = ([.int .u8 p.act, .str p.a, .str p.b, .int .i64 p.n, ks, ts] : List AVal)[f]?) ∧ aload H (some 2) (.ptr (some (bq, o + 4))) = some (.agg [ks, ts]) := by
  obtain ⟨xs, h1, h2, h3⟩ := h.ex
  have hi : i < l.length := (List.getElem?_eq_some_iff.1 hp).1
  have hx : xs[i]? = some xs[i] := List.getElem?_eq_getElem (by omega)
  have ha := h3 i _ p hx hp
  obtain ⟨ks, ts, e, g⟩ := ha.ex
  rw [e] at hx ha
  obtain ⟨bq, o, cs, q1, q2, q3, q4, q5⟩ := h1.cut hx
  refine ⟨slot v (i * 6), ks, ts, h1.addr (by omega), h1.load hx, ha, o, bq, q1, fun f hf => ?_, ?_⟩
  · have := h1.loadf hx hf
    rw [q2] at this
    exact this
  · rw [aload_agg q3]
    unfold Ahs.cut
    rw [if_pos (by omega)]
    have : ((cs.drop (o + 4)).take 2) = (((cs.drop o).take 6).drop 4).take 2 := by
      rw [List.drop_take, List.drop_drop, List.take_take]; rfl
    rw [this, q5]
    rfl

def greatC (keep torn : List Int) : Bool := decide (60 < keep.length) || decide (60 < torn.length)

theorem greatC_c {n lim : Nat} {ks ts : AVal} {keep torn : List Int} (s1 : Sl H 1 ks (encI keep)) (s2 : Sl H 1 ts (encI torn)) (o1 : ks.one = true) (o2 : ts.one = true) :
    ∃ v H', Ahs.runT ap (n + 1) lim (.fn 37) [.agg [ks, ts]] H = some (v, H') ∧ v = .bool (greatC keep torn) ∧ Keeps2 H H' ∧ H.next < H'.next := by
  refine F37_run a37 ?_
  unfold F37 greatC
  have hb : (([ks, ts] : List AVal).all fun v => v.one) = true := by simp only [List.all_cons, List.all_nil, o1, o2, Bool.and_true]
  have l1 := s1.len
  have l2 := s2.len
  rw [encI_len] at l1 l2
  have lx : ∀ o, aload (H.push (.cells [ks, ts])) none (.ptr (some (H.next, o))) = ([ks, ts] : List AVal)[o]? := fun o => aload_new1 _ _ _
  have d1 : decide ((60 : Int) < (keep.length : Int)) = decide (60 < keep.length) := by rw [Bool.eq_iff_iff]; simp; omega
  have d2 : decide ((60 : Int) < (torn.length : Int)) = decide (60 < torn.length) := by rw [Bool.eq_iff_iff]; simp; omega
  by_cases h : 60 < keep.length
  · have e : decide (60 < keep.length) = true := dT h
    (repeat (first | (with_reducible apply bindP_intro; (focus (first | with_reducible rfl | (simp only [walkR, get0, getS, Nat.zero_add, Nat.add_zero, Bool.not_true, Bool.not_false, decide_true, decide_false, reduceIte, and_self, Bool.false_eq_true, hb, lx, l1, d1, e] <;> with_reducible rfl)))) | (with_reducible apply bind2_intro; (focus (first | with_reducible rfl | (simp only [walkR, get0, getS, Nat.zero_add, Nat.add_zero, Bool.not_true, Bool.not_false, decide_true, decide_false, reduceIte, and_self, Bool.false_eq_true, hb, lx, l1, d1, e] <;> with_reducible rfl)))) | with_reducible apply cond_t | with_reducible apply cond_f))
    exact ⟨by rw [e]; rfl, .push _ _, by rw [Heap.next_push]; omega⟩
  · have e : decide (60 < keep.length) = false := dF h
    (repeat (first | (with_reducible apply bindP_intro; (focus (first | with_reducible rfl | (simp only [walkR, get0, getS, Nat.zero_add, Nat.add_zero, Bool.not_true, Bool.not_false, decide_true, decide_false, reduceIte, and_self, Bool.false_eq_true, hb, lx, l1, l2, d1, e, d2] <;> with_reducible rfl)))) | (with_reducible apply bind2_intro; (focus (first | with_reducible rfl | (simp only [walkR, get0, getS, Nat.zero_add, Nat.add_zero, Bool.not_true, Bool.not_false, decide_true, decide_false, reduceIte, and_self, Bool.false_eq_true, hb, lx, l1, l2, d1, e, d2] <;> with_reducible rfl)))) | with_reducible apply cond_t | with_reducible apply cond_f))
    exact ⟨by rw [e]; rfl, .push _ _, by rw [Heap.next_push]; omega⟩

theorem great_loop {n lim N : Nat} {K : AVal → Heap → Prop} {v : AVal} {l : List PAct} {H0 : Heap} (h0 : ActsAt H0 v l) (hlen : l.length ≤ 100)
    (hK : ∀ t H', Keeps2 H0 H' → (t = false → (∀ p ∈ l, p.ok) ∧ (l ≠ [] → H0.next < H'.next)) → K (.bool t) H') :
    ∀ (j i : Nat) (s : Int) (H : Heap), Keeps2 H0 H → l.length < j + i → i ≤ l.length → (∀ (k : Nat) p, k < i → l[k]? = some p → p.ok) → (i ≠ 0 → H0.next < H.next) → F36_l0 (Ahs.runT ap (n + 1)) lim N K j v (.int .i64 s) (.int .i64 (i : Int)) H
  | 0, i, s, H, _, h, h', _, _ => by exfalso; omega
  | j + 1, i, s, H, k0, hj, hi, hok, hnx => by
    show F36_s0 _ _ _ _ (F36_l0 _ _ _ _ j) _ _ _ _
    unfold F36_s0
    have hA := h0.keepH k0
    by_cases hil : i < l.length
    · have hd : decide ((i : Int) < (l.length : Int)) = true := dT (by omega)
      have hp : l[i]? = some l[i] := List.getElem?_eq_getElem hil
      generalize l[i] = p at hp
      obtain ⟨q, ks, ts, e1, e2, e3, o, bq, rfl, e4, e5⟩ := h0.at' hp
      obtain ⟨ks', ts', ee, s1, s2, o1, o2⟩ := e3.ex
      simp only [List.cons.injEq, and_true, true_and] at ee
      obtain ⟨rfl, rfl⟩ := ee
      have l1 : aload H none (.ptr (some (bq, o + 1))) = some (.str p.a) := aload_keep k0 (e4 1 (by omega))
      have l2 : aload H none (.ptr (some (bq, o + 2))) = some (.str p.b) := aload_keep k0 (e4 2 (by omega))
      have e5 := aload_keep k0 e5
      have hi1 : IntKind.i64.wrap ((i : Int) + 1) = ((i + 1 : Nat) : Int) := i64_succ (by omega)
      obtain ⟨vg, H2, g1, rfl, g3, g4⟩ := greatC_c (n := n) (lim := lim) (s1.keep k0) (s2.keep k0) o1 o2
      have m1 := aload_keep g3 l1
      have m2 := aload_keep g3 l2
      by_cases ha : 20000 < p.a.length
      · have da : decide ((20000 : Int) < (p.a.length : Int)) = true := dT (by omega)
        (repeat (first | (with_reducible apply bindP_intro; (focus (first | with_reducible rfl | (simp only [walkR, get0, getS, Nat.zero_add, Nat.add_zero, Bool.not_true, Bool.not_false, decide_true, decide_false, reduceIte, and_self, Bool.false_eq_true, hA.alen, hd, e1, l1, da] <;> with_reducible rfl)))) | (with_reducible apply bind2_intro; (focus (first | with_reducible rfl | (simp only [walkR, get0, getS, Nat.zero_add, Nat.add_zero, Bool.not_true, Bool.not_false, decide_true, decide_false, reduceIte, and_self, Bool.false_eq_true, hA.alen, hd, e1, l1, da] <;> with_reducible rfl)))) | with_reducible apply cond_t | with_reducible apply cond_f))
        exact hK true H k0 (fun e => by simp at e)
      · have da : decide ((20000 : Int) < (p.a.length : Int)) = false := dF (by omega)
        by_cases hb : 20000 < p.b.length
        · have db : decide ((20000 : Int) < (p.b.length : Int)) = true := dT (by omega)
          (repeat (first | (with_reducible apply bindP_intro; (focus (first | with_reducible rfl | (simp only [walkR, get0, getS, Nat.zero_add, Nat.add_zero, Bool.not_true, Bool.not_false, decide_true, decide_false, reduceIte, and_self, Bool.false_eq_true, hA.alen, hd, e1, l1, da, l2, db] <;> with_reducible rfl)))) | (with_reducible apply bind2_intro; (focus (first | with_reducible rfl | (simp only [walkR, get0, getS, Nat.zero_add, Nat.add_zero, Bool.not_true, Bool.not_false, decide_true, decide_false, reduceIte, and_self, Bool.false_eq_true, hA.alen, hd, e1, l1, da, l2, db] <;> with_reducible rfl)))) | with_reducible apply cond_t | with_reducible apply cond_f))
          exact hK true H k0 (fun e => by simp at e)
        · have db : decide ((20000 : Int) < (p.b.length : Int)) = false := dF (by omega)
          cases hg : greatC p.keep p.torn with
          | true =>
            rw [hg] at g1
            (repeat (first | (with_reducible apply bindP_intro; (focus (first | with_reducible rfl | (simp only [walkR, get0, getS, Nat.zero_add, Nat.add_zero, Bool.not_true, Bool.not_false, decide_true, decide_false, reduceIte, and_self, Bool.false_eq_true, hA.alen, hd, e1, l1, da, l2, db, e5, g1] <;> with_reducible rfl)))) | (with_reducible apply bind2_intro; (focus (first | with_reducible rfl | (simp only [walkR, get0, getS, Nat.zero_add, Nat.add_zero, Bool.not_true, Bool.not_false, decide_true, decide_false, reduceIte, and_self, Bool.false_eq_true, hA.alen, hd, e1, l1, da, l2, db, e5, g1] <;> with_reducible rfl)))) | with_reducible apply cond_t | with_reducible apply cond_f))
            exact hK true H2 (k0.trans g3) (fun e => by simp at e)
          | false =>
            rw [hg] at g1
            (repeat (first | (with_reducible apply bindP_intro; (focus (first | with_reducible rfl | (simp only [walkR, get0, getS, Nat.zero_add, Nat.add_zero, Bool.not_true, Bool.not_false, decide_true, decide_false, reduceIte, and_self, Bool.false_eq_true, hA.alen, hd, e1, l1, da, l2, db, e5, g1, m1, m2, hi1] <;> with_reducible rfl)))) | (with_reducible apply bind2_intro; (focus (first | with_reducible rfl | (simp only [walkR, get0, getS, Nat.zero_add, Nat.add_zero, Bool.not_true, Bool.not_false, decide_true, decide_false, reduceIte, and_self, Bool.false_eq_true, hA.alen, hd, e1, l1, da, l2, db, e5, g1, m1, m2, hi1] <;> with_reducible rfl)))) | with_reducible apply cond_t | with_reducible apply cond_f))
            refine great_loop h0 hlen hK j (i + 1) _ H2 (k0.trans g3) (by omega) (by omega) ?_ (fun _ => by have := k0.next; omega)
            intro k p' hk hkp
            by_cases hki : k = i
            · subst hki
              rw [hp] at hkp
              simp only [Option.some.injEq] at hkp
              subst hkp
              unfold greatC at hg
              simp only [Bool.or_eq_false_iff, decide_eq_false_iff_not] at hg
              exact ⟨e3.n.2, e3.n.1, by omega, by omega, by omega, e3.keep, e3.torn⟩
            · exact hok k p' (by omega) hkp
    · have hd : decide ((i : Int) < (l.length : Int)) = false := dF (by omega)
      (repeat (first | (with_reducible apply bindP_intro; (focus (first | with_reducible rfl | (simp only [walkR, get0, getS, Nat.zero_add, Nat.add_zero, Bool.not_true, Bool.not_false, decide_true, decide_false, reduceIte, and_self, Bool.false_eq_true, hA.alen, hd] <;> with_reducible rfl)))) | (with_reducible apply bind2_intro; (focus (first | with_reducible rfl | (simp only [walkR, get0, getS, Nat.zero_add, Nat.add_zero, Bool.not_true, Bool.not_false, decide_true, decide_false, reduceIte, and_self, Bool.false_eq_true, hA.alen, hd] <;> with_reducible rfl)))) | with_reducible apply cond_t | with_reducible apply cond_f))
      unfold F36_j0
      (repeat (first | (with_reducible apply bindP_intro; (focus (first | with_reducible rfl | (simp only [walkR, get0, getS, Nat.zero_add, Nat.add_zero, Bool.not_true, Bool.not_false, decide_true, decide_false, reduceIte, and_self, Bool.false_eq_true] <;> with_reducible rfl)))) | (with_reducible apply bind2_intro; (focus (first | with_reducible rfl | (simp only [walkR, get0, getS, Nat.zero_add, Nat.add_zero, Bool.not_true, Bool.not_false, decide_true, decide_false, reduceIte, and_self, Bool.false_eq_true] <;> with_reducible rfl)))) | with_reducible apply cond_t | with_reducible apply cond_f))
      refine hK _ H k0 fun _ => ⟨fun p hp => ?_, fun hne => hnx (by intro e; subst e; exact hne (List.eq_nil_of_length_eq_zero (by omega)))⟩
      obtain ⟨k, hk, rfl⟩ := List.getElem_of_mem hp
      exact hok k _ (by omega) (List.getElem?_eq_getElem hk)

theorem great_c {n lim : Nat} {v : AVal} {l : List PAct} (h : ActsAt H v l) (hn : 101 ≤ n) :
    ∃ r H', Ahs.runT ap (n + 2) lim (.fn 36) [v] H = some (r, H') ∧ Keeps2 H H' ∧ ∃ t, r = .bool t ∧ (t = false → l.length ≤ 100 ∧ (∀ p ∈ l, p.ok) ∧ (l ≠ [] → H.next < H'.next)) := by
  refine F36_run a36 ?_
  unfold F36
  by_cases hl : 100 < l.length
  · have hd : decide ((100 : Int) < (l.length : Int)) = true := dT (by omega)
    (repeat (first | (with_reducible apply bindP_intro; (focus (first | with_reducible rfl | (simp only [walkR, get0, getS, Nat.zero_add, Nat.add_zero, Bool.not_true, Bool.not_false, decide_true, decide_false, reduceIte, and_self, Bool.false_eq_true, h.alen, hd] <;> with_reducible rfl)))) | (with_reducible apply bind2_intro; (focus (first | with_reducible rfl | (simp only [walkR, get0, getS, Nat.zero_add, Nat.add_zero, Bool.not_true, Bool.not_false, decide_true, decide_false, reduceIte, and_self, Bool.false_eq_true, h.alen, hd] <;> with_reducible rfl)))) | with_reducible apply cond_t | with_reducible apply cond_f))
    exact ⟨.refl _, true, rfl, fun e => by simp at e⟩
  · have hd : decide ((100 : Int) < (l.length : Int)) = false := dF (by omega)
    (repeat (first | (with_reducible apply bindP_intro; (focus (first | with_reducible rfl | (simp only [walkR, get0, getS, Nat.zero_add, Nat.add_zero, Bool.not_true, Bool.not_false, decide_true, decide_false, reduceIte, and_self, Bool.false_eq_true, h.alen, hd] <;> with_reducible rfl)))) | (with_reducible apply bind2_intro; (focus (first | with_reducible rfl | (simp only [walkR, get0, getS, Nat.zero_add, Nat.add_zero, Bool.not_true, Bool.not_false, decide_true, decide_false, reduceIte, and_self, Bool.false_eq_true, h.alen, hd] <;> with_reducible rfl)))) | with_reducible apply cond_t | with_reducible apply cond_f))
    exact great_loop (n := n) h (by omega) (fun t H' k hok => ⟨k, t, rfl, fun e => ⟨by omega, hok e⟩⟩) (n + 1) 0 0 H (.refl _) (by omega) (by omega) (fun k p hk _ => by omega) (fun e => absurd rfl e)

theorem does_c {n lim K : Nat} {H0 : Heap} {p : PAct} {x : List AVal} (h : DiskAt M H b m D) (hD : DskOK K D) (hK : K ≤ 100000000) (hMb : M b) (hMm : M m) (hlb : lim ≤ b) (hlm : lim ≤ m) (hM : ∀ c, M c → c < H.next) (hKn : K < n)
    (k0 : Keeps2 H0 H) (hb0 : H0.next ≤ b) (hm0 : H0.next ≤ m) (hx : ActAt H0 x p) (hp : p.ok) :
    ∃ v H', Ahs.runT ap (n + 6) lim (.fn 46) [ptr b, .agg x] H = some (v, H') ∧ v = .tup [.str (doesD D p).1.1, .int .i64 (doesD D p).1.2] ∧ DiskAt M H' b m (doesD D p).2 ∧ Fram (dft b m) H H' := by
  refine F46_run a46 ?_
  unfold F46 doesD
  have hlt := h.ltb
  have hltm := h.ltm
  obtain ⟨ks, ts, rfl, s1, s2, o1, o2⟩ := hx.ex
  have hb : (([.int .u8 p.act, .str p.a, .str p.b, .int .i64 p.n, ks, ts] : List AVal).all fun v => v.one) = true := by
    simp only [List.all_cons, List.all_nil, o1, o2, Bool.and_true]; rfl
  have kx : Keeps2 H (H.push (.cells [.int .u8 p.act, .str p.a, .str p.b, .int .i64 p.n, ks, ts])) := .push _ _
  have nx : (H.push (.cells [.int .u8 p.act, .str p.a, .str p.b, .int .i64 p.n, ks, ts])).next = H.next + 1 := Heap.next_push _ _
  have lx : ∀ o, aload (H.push (.cells [.int .u8 p.act, .str p.a, .str p.b, .int .i64 p.n, ks, ts])) none (.ptr (some (H.next, o))) = ([.int .u8 p.act, .str p.a, .str p.b, .int .i64 p.n, ks, ts] : List AVal)[o]? := fun o => aload_new1 _ _ _
  have l4 : aload (H.push (.cells [.int .u8 p.act, .str p.a, .str p.b, .int .i64 p.n, ks, ts])) (some 2) (.ptr (some (H.next, 4))) = some (.agg [ks, ts]) := by
    rw [aload_agg (cells_push_new H _)]; rfl
  have h1 := h.keep kx
  have q : ∀ k : Int, (p.act == k) = decide (p.act = k) := fun k => by rw [Bool.eq_iff_iff]; simp
  generalize hH1 : H.push (.cells [.int .u8 p.act, .str p.a, .str p.b, .int .i64 p.n, ks, ts]) = H1 at *
  have fx : Fram (dft b m) H H1 := .of kx
  by_cases c0 : p.act = 0
  · have e0 : decide (p.act = 0) = true := dT c0
    obtain ⟨v, H', r1, r2, r3, r4⟩ := append_c (n := n + 1) (lim := lim) h1 hD (by omega) hMb hMm hlb hlm (fun c hc e => by have := hM c e; omega) p.a p.b
    (repeat (first | (with_reducible apply bindP_intro; (focus (first | with_reducible rfl | (simp only [walkR, get0, getS, Nat.zero_add, Nat.add_zero, Bool.not_true, Bool.not_false, decide_true, decide_false, reduceIte, and_self, Bool.false_eq_true, hb, hH1, lx, q, e0, r1] <;> with_reducible rfl)))) | (with_reducible apply bind2_intro; (focus (first | with_reducible rfl | (simp only [walkR, get0, getS, Nat.zero_add, Nat.add_zero, Bool.not_true, Bool.not_false, decide_true, decide_false, reduceIte, and_self, Bool.false_eq_true, hb, hH1, lx, q, e0, r1] <;> with_reducible rfl)))) | with_reducible apply cond_t | with_reducible apply cond_f))
    simp only [c0, if_true]
    exact ⟨by rw [r2], r3, fx.trans r4 (fun c _ e => e)⟩
  have e0 : decide (p.act = 0) = false := dF c0
  simp only [c0, if_false]
  by_cases c1 : p.act = 1
  · have e1 : decide (p.act = 1) = true := dT c1
    obtain ⟨v, H', r1, r2, r3, r4⟩ := sync_c (n := n) (lim := lim) h1 hD hMb hMm hlb hlm p.a
    (repeat (first | (with_reducible apply bindP_intro; (focus (first | with_reducible rfl | (simp only [walkR, get0, getS, Nat.zero_add, Nat.add_zero, Bool.not_true, Bool.not_false, decide_true, decide_false, reduceIte, and_self, Bool.false_eq_true, hb, hH1, lx, q, e0, e1, r1] <;> with_reducible rfl)))) | (with_reducible apply bind2_intro; (focus (first | with_reducible rfl | (simp only [walkR, get0, getS, Nat.zero_add, Nat.add_zero, Bool.not_true, Bool.not_false, decide_true, decide_false, reduceIte, and_self, Bool.false_eq_true, hb, hH1, lx, q, e0, e1, r1] <;> with_reducible rfl)))) | with_reducible apply cond_t | with_reducible apply cond_f))
    simp only [c1, if_true]
    exact ⟨by rw [r2], r3, fx.trans r4 (fun c _ e => e)⟩
  have e1 : decide (p.act = 1) = false := dF c1
  simp only [c1, if_false]
  by_cases c2 : p.act = 2
  · have e2 : decide (p.act = 2) = true := dT c2
    obtain ⟨v, H', r1, r2, r3, r4⟩ := rename_c (n := n) (lim := lim) h1 hD hMb hMm hlb hlm p.a p.b
    (repeat (first | (with_reducible apply bindP_intro; (focus (first | with_reducible rfl | (simp only [walkR, get0, getS, Nat.zero_add, Nat.add_zero, Bool.not_true, Bool.not_false, decide_true, decide_false, reduceIte, and_self, Bool.false_eq_true, hb, hH1, lx, q, e0, e1, e2, r1] <;> with_reducible rfl)))) | (with_reducible apply bind2_intro; (focus (first | with_reducible rfl | (simp only [walkR, get0, getS, Nat.zero_add, Nat.add_zero, Bool.not_true, Bool.not_false, decide_true, decide_false, reduceIte, and_self, Bool.false_eq_true, hb, hH1, lx, q, e0, e1, e2, r1] <;> with_reducible rfl)))) | with_reducible apply cond_t | with_reducible apply cond_f))
    simp only [c2, if_true]
    exact ⟨by rw [r2], r3, fx.trans r4 (fun c _ e => e)⟩
  have e2 : decide (p.act = 2) = false := dF c2
  simp only [c2, if_false]
  by_cases c3 : p.act = 3
  · have e3 : decide (p.act = 3) = true := dT c3
    obtain ⟨v, H', r1, r2, r3, r4⟩ := delete_c (n := n) (lim := lim) h1 hD hMb hMm hlb hlm p.a
    (repeat (first | (with_reducible apply bindP_intro; (focus (first | with_reducible rfl | (simp only [walkR, get0, getS, Nat.zero_add, Nat.add_zero, Bool.not_true, Bool.not_false, decide_true, decide_false, reduceIte, and_self, Bool.false_eq_true, hb, hH1, lx, q, e0, e1, e2, e3, r1] <;> with_reducible rfl)))) | (with_reducible apply bind2_intro; (focus (first | with_reducible rfl | (simp only [walkR, get0, getS, Nat.zero_add, Nat.add_zero, Bool.not_true, Bool.not_false, decide_true, decide_false, reduceIte, and_self, Bool.false_eq_true, hb, hH1, lx, q, e0, e1, e2, e3, r1] <;> with_reducible rfl)))) | with_reducible apply cond_t | with_reducible apply cond_f))
    simp only [c3, if_true]
    exact ⟨by rw [r2], r3, fx.trans r4 (fun c _ e => e)⟩
  have e3 : decide (p.act = 3) = false := dF c3
  simp only [c3, if_false]
  by_cases c4 : p.act = 4
  · have e4 : decide (p.act = 4) = true := dT c4
    obtain ⟨v, H', r1, r2, r3⟩ := read_c (n := n + 1) (lim := lim) h1 hD (by omega) (by omega) p.a
    subst r2
    (repeat (first | (with_reducible apply bindP_intro; (focus (first | with_reducible rfl | (simp only [walkR, get0, getS, Nat.zero_add, Nat.add_zero, Bool.not_true, Bool.not_false, decide_true, decide_false, reduceIte, and_self, Bool.false_eq_true, hb, hH1, lx, q, e0, e1, e2, e3, e4, r1] <;> with_reducible rfl)))) | (with_reducible apply bind2_intro; (focus (first | with_reducible rfl | (simp only [walkR, get0, getS, Nat.zero_add, Nat.add_zero, Bool.not_true, Bool.not_false, decide_true, decide_false, reduceIte, and_self, Bool.false_eq_true, hb, hH1, lx, q, e0, e1, e2, e3, e4, r1] <;> with_reducible rfl)))) | with_reducible apply cond_t | with_reducible apply cond_f))
    simp only [c4, if_true]
    exact ⟨trivial, h1.keep r3, fx.trans (.of (S := dft b m) r3) (fun c _ e => e)⟩
  have e4 : decide (p.act = 4) = false := dF c4
  simp only [c4, if_false]
  by_cases c5 : p.act = 5
  · have e5 : decide (p.act = 5) = true := dT c5
    obtain ⟨v, H', r1, r2, r3⟩ := fuse_c (n := n + 3) (lim := lim) h1 hMb hlb p.n
    (repeat (first | (with_reducible apply bindP_intro; (focus (first | with_reducible rfl | (simp only [walkR, get0, getS, Nat.zero_add, Nat.add_zero, Bool.not_true, Bool.not_false, decide_true, decide_false, reduceIte, and_self, Bool.false_eq_true, hb, hH1, lx, q, e0, e1, e2, e3, e4, e5, r1] <;> with_reducible rfl)))) | (with_reducible apply bind2_intro; (focus (first | with_reducible rfl | (simp only [walkR, get0, getS, Nat.zero_add, Nat.add_zero, Bool.not_true, Bool.not_false, decide_true, decide_false, reduceIte, and_self, Bool.false_eq_true, hb, hH1, lx, q, e0, e1, e2, e3, e4, e5, r1] <;> with_reducible rfl)))) | with_reducible apply cond_t | with_reducible apply cond_f))
    unfold F46_j0
    simp only [c5, if_true]
    exact ⟨trivial, r2, fx.trans r3 (fun c _ e => e)⟩
  have e5 : decide (p.act = 5) = false := dF c5
  simp only [c5, if_false]
  by_cases c6 : p.act = 6
  · have e6 : decide (p.act = 6) = true := dT c6
    have hkp := hp.keep
    have htn := hp.torn
    obtain ⟨v, H', r1, r2, r3⟩ := crash_c (n := n + 2) (lim := lim) h1 hD (by omega) hMb hMm hlb hlm (by omega) s1 s2 hb0 hm0 (k0.trans kx) o1 o2 hx.keep hx.torn (by omega) (by omega)
    (repeat (first | (with_reducible apply bindP_intro; (focus (first | with_reducible rfl | (simp only [walkR, get0, getS, Nat.zero_add, Nat.add_zero, Bool.not_true, Bool.not_false, decide_true, decide_false, reduceIte, and_self, Bool.false_eq_true, hb, hH1, lx, q, e0, e1, e2, e3, e4, e5, e6, l4, r1] <;> with_reducible rfl)))) | (with_reducible apply bind2_intro; (focus (first | with_reducible rfl | (simp only [walkR, get0, getS, Nat.zero_add, Nat.add_zero, Bool.not_true, Bool.not_false, decide_true, decide_false, reduceIte, and_self, Bool.false_eq_true, hb, hH1, lx, q, e0, e1, e2, e3, e4, e5, e6, l4, r1] <;> with_reducible rfl)))) | with_reducible apply cond_t | with_reducible apply cond_f))
    unfold F46_j1 F46_j0
    simp only [c6, if_true]
    exact ⟨trivial, r2, fx.trans r3 (fun c _ e => e)⟩
  have e6 : decide (p.act = 6) = false := dF c6
  simp only [c6, if_false]
  by_cases c7 : p.act = 7
  · have e7 : decide (p.act = 7) = true := dT c7
    obtain ⟨v, H', r1, r2, r3⟩ := start_c (n := n + 3) (lim := lim) h1 hMb hlb
    (repeat (first | (with_reducible apply bindP_intro; (focus (first | with_reducible rfl | (simp only [walkR, get0, getS, Nat.zero_add, Nat.add_zero, Bool.not_true, Bool.not_false, decide_true, decide_false, reduceIte, and_self, Bool.false_eq_true, hb, hH1, lx, q, e0, e1, e2, e3, e4, e5, e6, e7, r1] <;> with_reducible rfl)))) | (with_reducible apply bind2_intro; (focus (first | with_reducible rfl | (simp only [walkR, get0, getS, Nat.zero_add, Nat.add_zero, Bool.not_true, Bool.not_false, decide_true, decide_false, reduceIte, and_self, Bool.false_eq_true, hb, hH1, lx, q, e0, e1, e2, e3, e4, e5, e6, e7, r1] <;> with_reducible rfl)))) | with_reducible apply cond_t | with_reducible apply cond_f))
    unfold F46_j2 F46_j1 F46_j0
    simp only [c7, if_true]
    exact ⟨trivial, r2, fx.trans r3 (fun c _ e => e)⟩
  have e7 : decide (p.act = 7) = false := dF c7
  simp only [c7, if_false]
  (repeat (first | (with_reducible apply bindP_intro; (focus (first | with_reducible rfl | (simp only [walkR, get0, getS, Nat.zero_add, Nat.add_zero, Bool.not_true, Bool.not_false, decide_true, decide_false, reduceIte, and_self, Bool.false_eq_true, hb, hH1, lx, q, e0, e1, e2, e3, e4, e5, e6, e7] <;> with_reducible rfl)))) | (with_reducible apply bind2_intro; (focus (first | with_reducible rfl | (simp only [walkR, get0, getS, Nat.zero_add, Nat.add_zero, Bool.not_true, Bool.not_false, decide_true, decide_false, reduceIte, and_self, Bool.false_eq_true, hb, hH1, lx, q, e0, e1, e2, e3, e4, e5, e6, e7] <;> with_reducible rfl)))) | with_reducible apply cond_t | with_reducible apply cond_f))
  unfold F46_j2 F46_j1 F46_j0
  exact ⟨rfl, h1, fx⟩

/-- What was played is there. -/
theorem plays_loop {n lim N : Nat} {K : AVal → Heap → Prop} {v : AVal} {l : List PAct} {H0 : Heap} (hMb : M b) (hMm : M m) (hlb : lim ≤ b) (hlm : lim ≤ m) (h0 : ActsAt H0 v l) (hb0 : H0.next ≤ b) (hm0 : H0.next ≤ m) (hok : ∀ p ∈ l, p.ok) (hlen : l.length ≤ 100) (hn : 50000000 ≤ n)
    {Hs : Heap} (hM : ∀ c, M c → c < Hs.next) (hK : ∀ D' H', DiskAt M H' b m D' → Fram (dft b m) Hs H' → D' = playsD D l → K (.tup []) H') :
    ∀ (j i : Nat) (H : Heap) (D1 : Dsk) (K1 : Nat), DiskAt M H b m D1 → DskOK K1 D1 → K1 + (l.length - i) * 20001 ≤ 50000000 → Keeps2 H0 H → Fram (dft b m) Hs H → l.length < j + i → i ≤ l.length → playsD D l = playsD D1 (l.drop i) →
      F40_l0 (Ahs.runT ap (n + 6)) lim N K j (ptr b) v (.int .i64 (i : Int)) H
  | 0, i, H, D1, K1, _, _, _, _, _, h, h', _ => by exfalso; omega
  | j + 1, i, H, D1, K1, hd1, hD1, hK1, k0, fr, hj, hi, hpl => by
    show F40_s0 _ _ _ _ (F40_l0 _ _ _ _ j) _ _ _ _
    unfold F40_s0
    have hA := h0.keepH k0
    by_cases hil : i < l.length
    · have hd : decide ((i : Int) < (l.length : Int)) = true := dT (by omega)
      have hp : l[i]? = some l[i] := List.getElem?_eq_getElem hil
      have hpo := hok l[i] (List.getElem_mem hil)
      have hdrop : playsD D1 (l.drop i) = playsD (doesD D1 l[i]).2 (l.drop (i + 1)) := by
        rw [List.drop_eq_getElem_cons hil]; rfl
      generalize l[i] = p at hp hpo hdrop
      obtain ⟨q, ks, ts, e1, e2, e3, _⟩ := h0.at' hp
      have e2 := aload_keep k0 e2
      have hi1 : IntKind.i64.wrap ((i : Int) + 1) = ((i + 1 : Nat) : Int) := i64_succ (by omega)
      have hfn := fr.next
      obtain ⟨r, H', r1, r2, r3, r4⟩ := does_c (n := n) (lim := lim) hd1 hD1 (by omega) hMb hMm hlb hlm (fun c e => by have := hM c e; omega) (by omega) k0 hb0 hm0 e3 hpo
      (repeat (first | (with_reducible apply bindP_intro; (focus (first | with_reducible rfl | (simp only [walkR, get0, getS, Nat.zero_add, Nat.add_zero, Bool.not_true, Bool.not_false, decide_true, decide_false, reduceIte, and_self, Bool.false_eq_true, hA.alen, hd, e1, e2, r1, hi1] <;> with_reducible rfl)))) | (with_reducible apply bind2_intro; (focus (first | with_reducible rfl | (simp only [walkR, get0, getS, Nat.zero_add, Nat.add_zero, Bool.not_true, Bool.not_false, decide_true, decide_false, reduceIte, and_self, Bool.false_eq_true, hA.alen, hd, e1, e2, r1, hi1] <;> with_reducible rfl)))) | with_reducible apply cond_t | with_reducible apply cond_f))
      refine plays_loop hMb hMm hlb hlm h0 hb0 hm0 hok hlen hn hM hK j (i + 1) H' _ (K1 + 20001) r3 (doesD_ok hD1 hpo) (by
        have : l.length - i = (l.length - (i + 1)) + 1 := by omega
        rw [this, Nat.succ_mul] at hK1
        omega) (Fram.keeps k0 r4 fun c hc e => by rcases e with e | e <;> omega) (fr.trans r4 fun c _ e => e) (by omega) (by omega) (by rw [hpl, hdrop])
    · have hd : decide ((i : Int) < (l.length : Int)) = false := dF (by omega)
      (repeat (first | (with_reducible apply bindP_intro; (focus (first | with_reducible rfl | (simp only [walkR, get0, getS, Nat.zero_add, Nat.add_zero, Bool.not_true, Bool.not_false, decide_true, decide_false, reduceIte, and_self, Bool.false_eq_true, hA.alen, hd] <;> with_reducible rfl)))) | (with_reducible apply bind2_intro; (focus (first | with_reducible rfl | (simp only [walkR, get0, getS, Nat.zero_add, Nat.add_zero, Bool.not_true, Bool.not_false, decide_true, decide_false, reduceIte, and_self, Bool.false_eq_true, hA.alen, hd] <;> with_reducible rfl)))) | with_reducible apply cond_t | with_reducible apply cond_f))
      unfold F40_j0
      refine hK D1 H hd1 fr ?_
      rw [hpl, List.drop_eq_nil_of_le (by omega)]; rfl

/-- A list of acts is played. -/
theorem plays_c {n lim K1 : Nat} {v : AVal} {l : List PAct} {H0 : Heap} (h : DiskAt M H b m D) (hD : DskOK K1 D) (hK1 : K1 ≤ 20000000) (hMb : M b) (hMm : M m) (hlb : lim ≤ b) (hlm : lim ≤ m) (hM : ∀ c, M c → c < H.next) (h0 : ActsAt H0 v l) (k0 : Keeps2 H0 H) (hb0 : H0.next ≤ b) (hm0 : H0.next ≤ m) (hok : ∀ p ∈ l, p.ok) (hlen : l.length ≤ 100) (hn : 50000000 ≤ n) :
    ∃ r H', Ahs.runT ap (n + 7) lim (.fn 40) [ptr b, v] H = some (r, H') ∧ DiskAt M H' b m (playsD D l) ∧ Fram (dft b m) H H' ∧ DskOK (K1 + 2000100) (playsD D l) := by
  refine F40_run a40 ?_
  unfold F40
  have hl : l.length * 20001 ≤ 2000100 := by omega
  refine plays_loop (n := n) (Hs := H) (D := D) hMb hMm hlb hlm h0 hb0 hm0 hok hlen hn hM ?_ (n + 6) 0 H D K1 h hD (by simp only [Nat.sub_zero]; omega) k0 (.refl _ _) (by omega) (Nat.zero_le _) (by simp)
  rintro D' H' d1 d2 rfl
  exact ⟨d1, d2, (playsD_ok hD hok).mono (by omega)⟩

end
end Go.Proofs.Ytjflpnahjooffaa.disk
