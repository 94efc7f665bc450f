/- DiskCounts: how many records a crash leaves hangs on numbers of records alone. -/
import Derived.Test.YtjflpnahjooffaaDxLasts
set_option maxRecDepth 100000
set_option linter.unusedVariables false
set_option linter.unusedSimpArgs false
namespace Go.Proofs.Ytjflpnahjooffaa.disk
open Go.Ahs

section
variable {M : Nat → Prop} {H : Heap} {b m b2 m2 : Nat} {D E : Dsk}

/-- Two disks, apart from one another. -/
structure Two (M : Nat → Prop) (H : Heap) (b m b2 m2 : Nat) (D E : Dsk) : Prop where
  one : DiskAt M H b m D
  two : DiskAt M H b2 m2 E

structure Apart (M : Nat → Prop) (b m b2 m2 : Nat) : Prop where
  M1 : M b
  M2 : M m
  M3 : M b2
  M4 : M m2
  a1 : b ≠ b2
  a2 : b ≠ m2
  a3 : m ≠ b2
  a4 : m ≠ m2

theorem Apart.no21 (h : Apart M b m b2 m2) : ¬ dft b m b2 ∧ ¬ dft b m m2 := ⟨fun e => by rcases e with e | e; exact h.a1 e.symm; exact h.a3 e.symm, fun e => by rcases e with e | e; exact h.a2 e.symm; exact h.a4 e.symm⟩
theorem Apart.no12 (h : Apart M b m b2 m2) : ¬ dft b2 m2 b ∧ ¬ dft b2 m2 m := ⟨fun e => by rcases e with e | e; exact h.a1 e; exact h.a2 e, fun e => by rcases e with e | e; exact h.a3 e; exact h.a4 e⟩
theorem Apart.in1 (h : Apart M b m b2 m2) : ∀ c, dft b m c → M c := fun c e => by rcases e with rfl | rfl; exact h.M1; exact h.M2
theorem Apart.in2 (h : Apart M b m b2 m2) : ∀ c, dft b2 m2 c → M c := fun c e => by rcases e with rfl | rfl; exact h.M3; exact h.M4

theorem Alike.names {D E : Dsk} (h : Alike D E) : D.fs.map (·.1) = E.fs.map (·.1) := by
  have := congrArg (List.map (·.1)) h.fs
  simpa [cfs, List.map_map, Function.comp_def] using this
theorem Alike.recs {D E : Dsk} (h : Alike D E) (n : Str) : recsD D n = recsD E n := by
  have := h.getD n
  simp only [cnt, Prod.mk.injEq] at this
  unfold recsD
  rw [this.1, this.2.1]

/-- The names are gone through, and what is told of each. -/
theorem cnt_loop {n lim N : Nat} {v1 v2 : AVal} {ns : List Str} {K : AVal → Heap → Prop} (hns : ns.length < 1000000000) (hr : ∀ x ∈ ns, recsD D x = recsD E x)
    {Hs : Heap} (hlim : lim ≤ Hs.next) (hT : Two M Hs b m b2 m2 D E) (s1 : Sl Hs 1 v1 (encR ns)) (s2 : Sl Hs 1 v2 (encR ns)) (hK : ∀ H', Keeps2 Hs H' → F11_j0 (Ahs.runT ap (n + 3)) lim N K H') :
    ∀ (j i : Nat) (H : Heap), Keeps2 Hs H → ns.length < j + i → i ≤ ns.length → F11_l2 (Ahs.runT ap (n + 3)) lim N K j (ptr b) (ptr b2) v1 v2 (.int .i64 (i : Int)) H
  | 0, i, H, _, h, h' => by exfalso; omega
  | j + 1, i, H, k0, hj, hi => by
    show F11_s2 _ _ _ _ (F11_l2 _ _ _ _ j) _ _ _ _ _ _
    unfold F11_s2
    have hl1 : alen false v1 = some (.int .i64 (ns.length : Int)) := by rw [s1.len, encR_len]
    by_cases hil : i < ns.length
    · have hd : decide ((i : Int) < (ns.length : Int)) = true := dT (by omega)
      have hx : ns[i]? = some ns[i] := List.getElem?_eq_getElem hil
      have hrx := hr ns[i] (List.getElem_mem hil)
      generalize ns[i] = x at hx hrx
      obtain ⟨p1, p2, p3⟩ := sl_at s1 (encR_get hx)
      obtain ⟨q1, q2, q3⟩ := sl_at s2 (encR_get hx)
      have k0n := k0.next
      obtain ⟨r1, H1, e1, rfl, e3⟩ := records_c (n := n + 1) (lim := lim) (hT.one.keep k0) (by omega) x
      obtain ⟨r2, H2, f1, rfl, f3⟩ := records_c (n := n + 1) (lim := lim) (hT.two.keep (k0.trans e3)) (by have := e3.next; omega) x
      rw [hrx] at e1
      have hi1 : IntKind.i64.wrap ((i : Int) + 1) = ((i + 1 : Nat) : Int) := i64_succ (by omega)
      have hxx : (!(x == x)) = false := by simp
      have hn1 : ((((recsD E x).1 : Nat) : Int) != (((recsD E x).1 : Nat) : Int)) = false := by simp
      have hn2 : ((((recsD E x).2 : Nat) : Int) != (((recsD E x).2 : Nat) : Int)) = false := by simp
      (repeat (first | (with_reducible apply bindP_intro; (focus (first | with_reducible rfl | (simp only [walkR, get0, getS, Nat.zero_add, Nat.add_zero, Bool.not_true, Bool.not_false, decide_true, decide_false, reduceIte, and_self, Bool.false_eq_true, hl1, hd, p2, aload_keep k0 p3, e1, q2, aload_keep (k0.trans e3) q3, f1, aload_keep ((k0.trans e3).trans f3) p3, aload_keep ((k0.trans e3).trans f3) q3, hxx, hn1, hn2, hi1] <;> with_reducible rfl)))) | (with_reducible apply bind2_intro; (focus (first | with_reducible rfl | (simp only [walkR, get0, getS, Nat.zero_add, Nat.add_zero, Bool.not_true, Bool.not_false, decide_true, decide_false, reduceIte, and_self, Bool.false_eq_true, hl1, hd, p2, aload_keep k0 p3, e1, q2, aload_keep (k0.trans e3) q3, f1, aload_keep ((k0.trans e3).trans f3) p3, aload_keep ((k0.trans e3).trans f3) q3, hxx, hn1, hn2, hi1] <;> with_reducible rfl)))) | with_reducible apply cond_t | with_reducible apply cond_f))
      exact cnt_loop hns hr hlim hT s1 s2 hK j (i + 1) H2 ((k0.trans e3).trans f3) (by omega) (by omega)
    · have hd : decide ((i : Int) < (ns.length : Int)) = false := dF (by omega)
      (repeat (first | (with_reducible apply bindP_intro; (focus (first | with_reducible rfl | (simp only [walkR, get0, getS, Nat.zero_add, Nat.add_zero, Bool.not_true, Bool.not_false, decide_true, decide_false, reduceIte, and_self, Bool.false_eq_true, hl1, hd] <;> with_reducible rfl)))) | (with_reducible apply bind2_intro; (focus (first | with_reducible rfl | (simp only [walkR, get0, getS, Nat.zero_add, Nat.add_zero, Bool.not_true, Bool.not_false, decide_true, decide_false, reduceIte, and_self, Bool.false_eq_true, hl1, hd] <;> with_reducible rfl)))) | with_reducible apply cond_t | with_reducible apply cond_f))
      exact hK H k0

/-- What is told of both, once all is done. -/
theorem cnt_end {n lim N K1 : Nat} {K : AVal → Heap → Prop} (hlim : lim ≤ H.next) (hT : Two M H b m b2 m2 D E) (hA : Alike D E) (hD : DskOK K1 D) (hE : DskOK K1 E) (hK1 : K1 ≤ 100000000) (hN : 200000000 ≤ N) (hK : ∀ H', K (.bool true) H') :
    F11_j1 (Ahs.runT ap (n + 3)) lim N K (ptr b) (ptr b2) H := by
  unfold F11_j1
  obtain ⟨v1, H1, e1, e2, e3, e4⟩ := list_c (n := n + 2) (lim := lim) hT.one hD (by omega)
  obtain ⟨v2, H2, f1, f2, f3, f4⟩ := list_c (n := n + 2) (lim := lim) (hT.two.keep e3) hE (by omega)
  rw [← hA.names] at f2
  have hl1 : alen false v1 = some (.int .i64 ((D.fs.map (·.1)).length : Nat)) := by rw [e2.len, encR_len]
  have hl2 : alen false v2 = some (.int .i64 ((D.fs.map (·.1)).length : Nat)) := by rw [f2.len, encR_len]
  have k2 := e3.trans f3
  have hT2 : Two M H2 b m b2 m2 D E := ⟨hT.one.keep k2, hT.two.keep k2⟩
  have hn : (((D.fs.map (·.1)).length : Int) != ((D.fs.map (·.1)).length : Int)) = false := by simp
  have d1 := down_c (n := n + 1) (lim := lim) hT2.one
  have d2 := down_c (n := n + 1) (lim := lim) hT2.two
  have u1 := fused_c (n := n + 1) (lim := lim) hT2.one
  have u2 := fused_c (n := n + 1) (lim := lim) hT2.two
  rw [← hA.off] at d2
  rw [← hA.fuse] at u2
  have ho : eqvO true .bool (.bool D.off) (.bool D.off) = some (.bool false) := by rw [eqvO_bool]; simp
  have hf : ((D.fuse : Int) != (D.fuse : Int)) = false := by simp
  have hlen := hD.len
  (repeat (first | (with_reducible apply bindP_intro; (focus (first | with_reducible rfl | (simp only [walkR, get0, getS, Nat.zero_add, Nat.add_zero, Bool.not_true, Bool.not_false, decide_true, decide_false, reduceIte, and_self, Bool.false_eq_true, e1, f1, hl1, hl2, hn, d1, d2, ho, u1, u2, hf] <;> with_reducible rfl)))) | (with_reducible apply bind2_intro; (focus (first | with_reducible rfl | (simp only [walkR, get0, getS, Nat.zero_add, Nat.add_zero, Bool.not_true, Bool.not_false, decide_true, decide_false, reduceIte, and_self, Bool.false_eq_true, e1, f1, hl1, hl2, hn, d1, d2, ho, u1, u2, hf] <;> with_reducible rfl)))) | with_reducible apply cond_t | with_reducible apply cond_f))
  have hk2 := k2.next
  refine cnt_loop (n := n) (D := D) (E := E) (ns := D.fs.map (·.1)) (by simp; omega) (fun x _ => hA.recs x) (by omega) hT2 (e2.keep f3) f2 (fun H' _ => ?_) N 0 H2 (.refl _) (by simp; omega) (Nat.zero_le _)
  unfold F11_j0
  have haw : ∀ G, Ahs.runT ap (n + 3) lim (.fn 38) [] G = some (.bool true, G) := fun G => b38
  (repeat (first | (with_reducible apply bindP_intro; (focus (first | with_reducible rfl | (simp only [walkR, get0, getS, Nat.zero_add, Nat.add_zero, Bool.not_true, Bool.not_false, decide_true, decide_false, reduceIte, and_self, Bool.false_eq_true, haw] <;> with_reducible rfl)))) | (with_reducible apply bind2_intro; (focus (first | with_reducible rfl | (simp only [walkR, get0, getS, Nat.zero_add, Nat.add_zero, Bool.not_true, Bool.not_false, decide_true, decide_false, reduceIte, and_self, Bool.false_eq_true, haw] <;> with_reducible rfl)))) | with_reducible apply cond_t | with_reducible apply cond_f))
  exact hK H'

/-- The two acts that are done. -/
theorem cnt_step {n lim N K1 : Nat} {K : AVal → Heap → Prop} {rec0 : AVal → AVal → AVal → AVal → AVal → Heap → Prop} {t0 t1 ks ts : AVal} {i x6 y6 : Nat} {p p' : PAct} {H0 : Heap} (hAp : Apart M b m b2 m2) (hlb : lim ≤ b) (hlm : lim ≤ m) (hlb2 : lim ≤ b2) (hlm2 : lim ≤ m2) (hT : Two M H b m b2 m2 D E) (hA : Alike D E) (hD : DskOK K1 D) (hE : DskOK K1 E) (hK1 : K1 ≤ 50000000)
    (hM : ∀ c, M c → c < H.next) (k0 : Keeps2 H0 H) (hb0 : H0.next ≤ b) (hm0 : H0.next ≤ m) (hb2 : H0.next ≤ b2) (hm2 : H0.next ≤ m2) (hn : 100000000 ≤ n) (hi : i < 1000000)
    (cx : H.cells x6 = some [.int .u8 p.act, .str p.a, .str p.b, .int .i64 p.n, ks, ts]) (cy : H.cells y6 = some [.int .u8 p'.act, .str p'.a, .str p'.b, .int .i64 p'.n, ks, ts]) (hx : ActAt H0 [.int .u8 p.act, .str p.a, .str p.b, .int .i64 p.n, ks, ts] p) (hy : ActAt H0 [.int .u8 p'.act, .str p'.a, .str p'.b, .int .i64 p'.n, ks, ts] p') (hp : p.ok) (hp' : p'.ok) (ho : Other p p')
    (hny : ¬ M y6)
    (hK : ∀ H' D' E', Two M H' b m b2 m2 D' E' → Alike D' E' → DskOK (K1 + 20001) D' → DskOK (K1 + 20001) E' → Fram M H H' → rec0 t0 t1 (ptr b) (ptr b2) (.int .i64 ((i + 1 : Nat) : Int)) H') :
    F11_j3 (Ahs.runT ap (n + 6)) lim N K rec0 t0 t1 (ptr b) (ptr b2) (.int .i64 (i : Int)) (ptr x6) (ptr y6) H := by
  unfold F11_j3
  have lx0 : aload H none (.ptr (some (x6, 0))) = some (.int .u8 p.act) := by rw [aload_one cx]; rfl
  have hi1 : IntKind.i64.wrap ((i : Int) + 1) = ((i + 1 : Nat) : Int) := i64_succ (by omega)
  by_cases h4 : p.act = 4
  · have d4 : decide (p.act = 4) = true := dT h4
    (repeat (first | (with_reducible apply bindP_intro; (focus (first | with_reducible rfl | (simp only [walkR, get0, getS, Nat.zero_add, Nat.add_zero, Bool.not_true, Bool.not_false, decide_true, decide_false, reduceIte, and_self, Bool.false_eq_true, lx0, act_eq, d4] <;> with_reducible rfl)))) | (with_reducible apply bind2_intro; (focus (first | with_reducible rfl | (simp only [walkR, get0, getS, Nat.zero_add, Nat.add_zero, Bool.not_true, Bool.not_false, decide_true, decide_false, reduceIte, and_self, Bool.false_eq_true, lx0, act_eq, d4] <;> with_reducible rfl)))) | with_reducible apply cond_t | with_reducible apply cond_f))
    unfold F11_j2
    (repeat (first | (with_reducible apply bindP_intro; (focus (first | with_reducible rfl | (simp only [walkR, get0, getS, Nat.zero_add, Nat.add_zero, Bool.not_true, Bool.not_false, decide_true, decide_false, reduceIte, and_self, Bool.false_eq_true, hi1] <;> with_reducible rfl)))) | (with_reducible apply bind2_intro; (focus (first | with_reducible rfl | (simp only [walkR, get0, getS, Nat.zero_add, Nat.add_zero, Bool.not_true, Bool.not_false, decide_true, decide_false, reduceIte, and_self, Bool.false_eq_true, hi1] <;> with_reducible rfl)))) | with_reducible apply cond_t | with_reducible apply cond_f))
    exact hK H D E hT hA (hD.mono (by omega)) (hE.mono (by omega)) (.refl _ _)
  · have d4 : decide (p.act = 4) = false := dF h4
    obtain ⟨r1, H1, e1, rfl, e3, e4⟩ := does_c (n := n) (lim := lim) hT.one hD (by omega) hAp.M1 hAp.M2 hlb hlm hM (by omega) k0 hb0 hm0 hx hp
    have h2 := hT.two.frame e4 hAp.no21.1 hAp.no21.2 hAp.in1
    have k1 : Keeps2 H0 H1 := Fram.keeps k0 e4 fun c hc e => by rcases e with e | e <;> omega
    have hn1 := e4.next
    have cy1 : H1.cells y6 = some [.int .u8 p'.act, .str p'.a, .str p'.b, .int .i64 p'.n, ks, ts] := e4.cells cy (fun e => hny (hAp.in1 _ e))
    obtain ⟨r2, H2, f1, rfl, f3, f4⟩ := does_c (n := n) (lim := lim) h2 hE (by omega) hAp.M3 hAp.M4 hlb2 hlm2 (fun c e => by have := hM c e; omega) (by omega) k1 hb2 hm2 hy hp'
    have h1 := e3.frame f4 hAp.no12.1 hAp.no12.2 hAp.in2
    obtain ⟨a1, a2⟩ := hA.does ho h4
    rw [← a1] at f1
    have hne : ((doesD D p).1.2 != (doesD D p).1.2) = false := by simp
    (repeat (first | (with_reducible apply bindP_intro; (focus (first | with_reducible rfl | (simp only [walkR, get0, getS, Nat.zero_add, Nat.add_zero, Bool.not_true, Bool.not_false, decide_true, decide_false, reduceIte, and_self, Bool.false_eq_true, lx0, act_eq, d4, aload_all (n := 6) cx rfl, e1, aload_all (n := 6) cy1 rfl, f1, hne] <;> with_reducible rfl)))) | (with_reducible apply bind2_intro; (focus (first | with_reducible rfl | (simp only [walkR, get0, getS, Nat.zero_add, Nat.add_zero, Bool.not_true, Bool.not_false, decide_true, decide_false, reduceIte, and_self, Bool.false_eq_true, lx0, act_eq, d4, aload_all (n := 6) cx rfl, e1, aload_all (n := 6) cy1 rfl, f1, hne] <;> with_reducible rfl)))) | with_reducible apply cond_t | with_reducible apply cond_f))
    unfold F11_j2
    (repeat (first | (with_reducible apply bindP_intro; (focus (first | with_reducible rfl | (simp only [walkR, get0, getS, Nat.zero_add, Nat.add_zero, Bool.not_true, Bool.not_false, decide_true, decide_false, reduceIte, and_self, Bool.false_eq_true, hi1] <;> with_reducible rfl)))) | (with_reducible apply bind2_intro; (focus (first | with_reducible rfl | (simp only [walkR, get0, getS, Nat.zero_add, Nat.add_zero, Bool.not_true, Bool.not_false, decide_true, decide_false, reduceIte, and_self, Bool.false_eq_true, hi1] <;> with_reducible rfl)))) | with_reducible apply cond_t | with_reducible apply cond_f))
    exact hK H2 _ _ ⟨h1, f3⟩ a2 (doesD_ok hD hp) (doesD_ok hE hp') ((e4.weaken fun c _ e => hAp.in1 c e).trans f4 fun c _ e => hAp.in2 c e)

theorem counts_loop {n lim N : Nat} {K : AVal → Heap → Prop} {v ov : AVal} {l : List PAct} {os : List Str} {H0 : Heap} (hAp : Apart M b m b2 m2) (hlb : lim ≤ b) (hlm : lim ≤ m) (hlb2 : lim ≤ b2) (hlm2 : lim ≤ m2) (h0 : ActsAt H0 v l) (s0 : Sl H0 1 ov (encR os)) (hb0 : H0.next ≤ b) (hm0 : H0.next ≤ m) (hb2 : H0.next ≤ b2) (hm2 : H0.next ≤ m2) (hok : ∀ p ∈ l, p.ok) (hlen : l.length ≤ 100) (hn : 100000000 ≤ n) (hN : 200000000 ≤ N) (hM0 : ∀ c, M c → H0.next ≤ c) (hK : ∀ H', K (.bool true) H') :
    ∀ (j i : Nat) (H : Heap) (D E : Dsk) (K1 : Nat), Two M H b m b2 m2 D E → Alike D E → DskOK K1 D → DskOK K1 E → K1 + (l.length - i) * 20001 ≤ 50000000 → Keeps2 H0 H → (∀ c, M c → c < H.next) → lim ≤ H.next → l.length < j + i → i ≤ l.length →
      F11_l0 (Ahs.runT ap (n + 6)) lim N K j v ov (ptr b) (ptr b2) (.int .i64 (i : Int)) H
  | 0, i, H, D, E, K1, _, _, _, _, _, _, _, _, h, h' => by exfalso; omega
  | j + 1, i, H, D, E, K1, hT, hA, hD, hE, hK1, k0, hM, hlim, hj, hi => by
    show F11_s0 _ _ _ _ (F11_l0 _ _ _ _ j) _ _ _ _ _ _
    unfold F11_s0
    have hAl := (h0.keepH k0).alen
    by_cases hil : i < l.length
    · have hd : decide ((i : Int) < (l.length : Int)) = true := dT (by omega)
      have hp : l[i]? = some l[i] := List.getElem?_eq_getElem hil
      have hpo := hok l[i] (List.getElem_mem hil)
      generalize l[i] = p at hp hpo
      obtain ⟨q, ks, ts, e1, e2, e3, _⟩ := h0.at' hp
      have e2 := aload_keep k0 e2
      obtain ⟨ks', ts', ee, s1, s2, o1, o2⟩ := e3.ex
      simp only [List.cons.injEq, and_true, true_and] at ee
      obtain ⟨rfl, rfl⟩ := ee
      have hone : ∀ bb : Str, (([.int .u8 p.act, .str p.a, .str bb, .int .i64 p.n, ks, ts] : List AVal).all fun v => v.one) = true := fun bb => by simp only [List.all_cons, List.all_nil, o1, o2, Bool.and_true]; rfl
      have hK1' : K1 + 20001 + (l.length - (i + 1)) * 20001 ≤ 50000000 := by
        have : l.length - i = (l.length - (i + 1)) + 1 := by omega
        rw [this, Nat.succ_mul] at hK1
        omega
      have st1 : astore lim (H.push (.cells z767a78)) 6 (.ptr (some (H.next, 0))) (.agg [.int .u8 p.act, .str p.a, .str p.b, .int .i64 p.n, ks, ts]) = some (H.push (.cells [.int .u8 p.act, .str p.a, .str p.b, .int .i64 p.n, ks, ts])) := astore_new (cs := z767a78) (x := .agg [.int .u8 p.act, .str p.a, .str p.b, .int .i64 p.n, ks, ts]) hlim rfl rfl (hone _)
      have n1 : (H.push (.cells [.int .u8 p.act, .str p.a, .str p.b, .int .i64 p.n, ks, ts])).next = H.next + 1 := Heap.next_push _ _
      have c1 : (H.push (.cells [.int .u8 p.act, .str p.a, .str p.b, .int .i64 p.n, ks, ts])).cells H.next = some [.int .u8 p.act, .str p.a, .str p.b, .int .i64 p.n, ks, ts] := cells_push_new _ _
      have k1 : Keeps2 H (H.push (.cells [.int .u8 p.act, .str p.a, .str p.b, .int .i64 p.n, ks, ts])) := .push _ _
      generalize hG : H.push (.cells [.int .u8 p.act, .str p.a, .str p.b, .int .i64 p.n, ks, ts]) = G at *
      have st2 : astore lim (G.push (.cells z767a78)) 6 (.ptr (some (G.next, 0))) (.agg [.int .u8 p.act, .str p.a, .str p.b, .int .i64 p.n, ks, ts]) = some (G.push (.cells [.int .u8 p.act, .str p.a, .str p.b, .int .i64 p.n, ks, ts])) := astore_new (cs := z767a78) (x := .agg [.int .u8 p.act, .str p.a, .str p.b, .int .i64 p.n, ks, ts]) (by omega) rfl rfl (hone _)
      have l1 : ∀ bb : Str, aload (G.push (.cells [.int .u8 p.act, .str p.a, .str bb, .int .i64 p.n, ks, ts])) none (.ptr (some (H.next, 0))) = some (.int .u8 p.act) := fun bb => by rw [aload_one (cells_push_old c1)]; rfl
      have l2 : ∀ bb : Str, aload (G.push (.cells [.int .u8 p.act, .str p.a, .str bb, .int .i64 p.n, ks, ts])) none (.ptr (some (H.next, 2))) = some (.str p.b) := fun bb => by rw [aload_one (cells_push_old c1)]; rfl
      have hY : ∀ bb : Str, bb.length ≤ 20000 → (p.act ≠ 0 → bb = p.b) → (p.act = 0 → (p.b = [] ↔ bb = [])) → F11_j3 (Ahs.runT ap (n + 6)) lim N K (F11_l0 (Ahs.runT ap (n + 6)) lim N K j) v ov (ptr b) (ptr b2) (.int .i64 (i : Int)) (ptr H.next) (ptr G.next) (G.push (.cells [.int .u8 p.act, .str p.a, .str bb, .int .i64 p.n, ks, ts])) := by
        intro bb hbl g1 g2
        have k2 : Keeps2 H (G.push (.cells [.int .u8 p.act, .str p.a, .str bb, .int .i64 p.n, ks, ts])) := k1.trans (.push _ _)
        have n2 : (G.push (.cells [.int .u8 p.act, .str p.a, .str bb, .int .i64 p.n, ks, ts])).next = G.next + 1 := Heap.next_push _ _
        refine cnt_step (p := p) (p' := { p with b := bb }) (H0 := H0) (n := n) hAp hlb hlm hlb2 hlm2 ⟨hT.one.keep k2, hT.two.keep k2⟩ hA hD hE (by omega) (fun c e => by have := hM c e; omega) (k0.trans k2) hb0 hm0 hb2 hm2 hn (by omega) (cells_push_old c1) (cells_push_new G _) e3 ⟨⟨ks, ts, rfl, s1, s2, o1, o2⟩, e3.n, e3.keep, e3.torn⟩ hpo ⟨hpo.n, hpo.lo, hbl, hpo.keep, hpo.torn, hpo.keepR, hpo.tornR⟩ ⟨rfl, rfl, rfl, rfl, rfl, g1, g2⟩ (fun e => by have := hM _ e; omega) ?_
        intro H' D' E' t1 t2 t3 t4 t5
        have hn' := t5.next
        exact counts_loop hAp hlb hlm hlb2 hlm2 h0 s0 hb0 hm0 hb2 hm2 hok hlen hn hN hM0 hK j (i + 1) H' D' E' _ t1 t2 t3 t4 hK1' (Fram.keeps (k0.trans k2) t5 fun c hc e => by have := hM0 c e; omega) (fun c e => by have := hM c e; omega) (by omega) (by omega) (by omega)
      have hbo : p.b.length ≤ 20000 := hpo.b
      have stz : ∀ cc bb : Str, astore lim (G.push (.cells [.int .u8 p.act, .str p.a, .str cc, .int .i64 p.n, ks, ts])) 1 (.ptr (some (G.next, 2))) (.str bb) = some (G.push (.cells [.int .u8 p.act, .str p.a, .str bb, .int .i64 p.n, ks, ts])) := fun cc bb => astore_new1 (by omega) rfl (by show 2 < 6; omega) rfl
      have kY : ∀ bb : Str, Keeps2 H0 (G.push (.cells [.int .u8 p.act, .str p.a, .str bb, .int .i64 p.n, ks, ts])) := fun bb => (k0.trans k1).trans (.push _ _)
      by_cases ha : p.act = 0
      · have da : decide (p.act = 0) = true := dT ha
        by_cases hpb : p.b = []
        · have hq : (!(p.b == ([] : List UInt8))) = false := by rw [hpb]; rfl
          (repeat (first | (with_reducible apply bindP_intro; (focus (first | with_reducible rfl | (simp only [walkR, get0, getS, Nat.zero_add, Nat.add_zero, Bool.not_true, Bool.not_false, decide_true, decide_false, reduceIte, and_self, Bool.false_eq_true, hAl, hd, e1, e2, st1, hG, aload_all (n := 6) c1 rfl, st2, l1, l2, act_eq, da, hq] <;> with_reducible rfl)))) | (with_reducible apply bind2_intro; (focus (first | with_reducible rfl | (simp only [walkR, get0, getS, Nat.zero_add, Nat.add_zero, Bool.not_true, Bool.not_false, decide_true, decide_false, reduceIte, and_self, Bool.false_eq_true, hAl, hd, e1, e2, st1, hG, aload_all (n := 6) c1 rfl, st2, l1, l2, act_eq, da, hq] <;> with_reducible rfl)))) | with_reducible apply cond_t | with_reducible apply cond_f))
          exact hY p.b hbo (fun _ => rfl) (fun _ => Iff.rfl)
        · have hq : (!(p.b == ([] : List UInt8))) = true := by simpa using hpb
          have hsl : alen false ov = some (.int .i64 (os.length : Int)) := by rw [s0.len, encR_len]
          have hz : ([122] : List UInt8).length ≤ 20000 := by decide
          have goz : F11_j4 (Ahs.runT ap (n + 6)) lim N K (F11_l0 (Ahs.runT ap (n + 6)) lim N K j) v ov (ptr b) (ptr b2) (.int .i64 (i : Int)) (ptr H.next) (ptr G.next) (G.push (.cells [.int .u8 p.act, .str p.a, .str [122], .int .i64 p.n, ks, ts])) := by
            unfold F11_j4
            exact hY [122] hz (fun e => absurd ha e) (fun _ => by simp [hpb])
          by_cases hio : i < os.length
          · have hdo : decide ((i : Int) < (os.length : Int)) = true := dT (by omega)
            obtain ⟨p1, p2, p3⟩ := sl_at s0 (encR_get (List.getElem?_eq_getElem hio))
            have p3 := fun bb => aload_keep (kY bb) p3
            generalize os[i] = o at p3
            by_cases ho : o = []
            · have hqo : (!(o == ([] : List UInt8))) = false := by rw [ho]; rfl
              (repeat (first | (with_reducible apply bindP_intro; (focus (first | with_reducible rfl | (simp only [walkR, get0, getS, Nat.zero_add, Nat.add_zero, Bool.not_true, Bool.not_false, decide_true, decide_false, reduceIte, and_self, Bool.false_eq_true, hAl, hd, e1, e2, st1, hG, aload_all (n := 6) c1 rfl, st2, l1, l2, act_eq, da, hq, stz, hsl, hdo, p2, p3, hqo] <;> with_reducible rfl)))) | (with_reducible apply bind2_intro; (focus (first | with_reducible rfl | (simp only [walkR, get0, getS, Nat.zero_add, Nat.add_zero, Bool.not_true, Bool.not_false, decide_true, decide_false, reduceIte, and_self, Bool.false_eq_true, hAl, hd, e1, e2, st1, hG, aload_all (n := 6) c1 rfl, st2, l1, l2, act_eq, da, hq, stz, hsl, hdo, p2, p3, hqo] <;> with_reducible rfl)))) | with_reducible apply cond_t | with_reducible apply cond_f))
              exact goz
            · have hqo : (!(o == ([] : List UInt8))) = true := by simpa using ho
              by_cases hol : o.length < 20000
              · have hdl : decide ((o.length : Int) < 20000) = true := dT (by omega)
                (repeat (first | (with_reducible apply bindP_intro; (focus (first | with_reducible rfl | (simp only [walkR, get0, getS, Nat.zero_add, Nat.add_zero, Bool.not_true, Bool.not_false, decide_true, decide_false, reduceIte, and_self, Bool.false_eq_true, hAl, hd, e1, e2, st1, hG, aload_all (n := 6) c1 rfl, st2, l1, l2, act_eq, da, hq, stz, hsl, hdo, p2, p3, hqo, hdl] <;> with_reducible rfl)))) | (with_reducible apply bind2_intro; (focus (first | with_reducible rfl | (simp only [walkR, get0, getS, Nat.zero_add, Nat.add_zero, Bool.not_true, Bool.not_false, decide_true, decide_false, reduceIte, and_self, Bool.false_eq_true, hAl, hd, e1, e2, st1, hG, aload_all (n := 6) c1 rfl, st2, l1, l2, act_eq, da, hq, stz, hsl, hdo, p2, p3, hqo, hdl] <;> with_reducible rfl)))) | with_reducible apply cond_t | with_reducible apply cond_f))
                unfold F11_j4
                exact hY o (by omega) (fun e => absurd ha e) (fun _ => by simp [hpb, ho])
              · have hdl : decide ((o.length : Int) < 20000) = false := dF (by omega)
                (repeat (first | (with_reducible apply bindP_intro; (focus (first | with_reducible rfl | (simp only [walkR, get0, getS, Nat.zero_add, Nat.add_zero, Bool.not_true, Bool.not_false, decide_true, decide_false, reduceIte, and_self, Bool.false_eq_true, hAl, hd, e1, e2, st1, hG, aload_all (n := 6) c1 rfl, st2, l1, l2, act_eq, da, hq, stz, hsl, hdo, p2, p3, hqo, hdl] <;> with_reducible rfl)))) | (with_reducible apply bind2_intro; (focus (first | with_reducible rfl | (simp only [walkR, get0, getS, Nat.zero_add, Nat.add_zero, Bool.not_true, Bool.not_false, decide_true, decide_false, reduceIte, and_self, Bool.false_eq_true, hAl, hd, e1, e2, st1, hG, aload_all (n := 6) c1 rfl, st2, l1, l2, act_eq, da, hq, stz, hsl, hdo, p2, p3, hqo, hdl] <;> with_reducible rfl)))) | with_reducible apply cond_t | with_reducible apply cond_f))
                exact goz
          · have hdo : decide ((i : Int) < (os.length : Int)) = false := dF (by omega)
            (repeat (first | (with_reducible apply bindP_intro; (focus (first | with_reducible rfl | (simp only [walkR, get0, getS, Nat.zero_add, Nat.add_zero, Bool.not_true, Bool.not_false, decide_true, decide_false, reduceIte, and_self, Bool.false_eq_true, hAl, hd, e1, e2, st1, hG, aload_all (n := 6) c1 rfl, st2, l1, l2, act_eq, da, hq, stz, hsl, hdo] <;> with_reducible rfl)))) | (with_reducible apply bind2_intro; (focus (first | with_reducible rfl | (simp only [walkR, get0, getS, Nat.zero_add, Nat.add_zero, Bool.not_true, Bool.not_false, decide_true, decide_false, reduceIte, and_self, Bool.false_eq_true, hAl, hd, e1, e2, st1, hG, aload_all (n := 6) c1 rfl, st2, l1, l2, act_eq, da, hq, stz, hsl, hdo] <;> with_reducible rfl)))) | with_reducible apply cond_t | with_reducible apply cond_f))
            exact goz
      · have da : decide (p.act = 0) = false := dF ha
        (repeat (first | (with_reducible apply bindP_intro; (focus (first | with_reducible rfl | (simp only [walkR, get0, getS, Nat.zero_add, Nat.add_zero, Bool.not_true, Bool.not_false, decide_true, decide_false, reduceIte, and_self, Bool.false_eq_true, hAl, hd, e1, e2, st1, hG, aload_all (n := 6) c1 rfl, st2, l1, l2, act_eq, da] <;> with_reducible rfl)))) | (with_reducible apply bind2_intro; (focus (first | with_reducible rfl | (simp only [walkR, get0, getS, Nat.zero_add, Nat.add_zero, Bool.not_true, Bool.not_false, decide_true, decide_false, reduceIte, and_self, Bool.false_eq_true, hAl, hd, e1, e2, st1, hG, aload_all (n := 6) c1 rfl, st2, l1, l2, act_eq, da] <;> with_reducible rfl)))) | with_reducible apply cond_t | with_reducible apply cond_f))
        exact hY p.b hbo (fun _ => rfl) (fun _ => Iff.rfl)
    · have hd : decide ((i : Int) < (l.length : Int)) = false := dF (by omega)
      (repeat (first | (with_reducible apply bindP_intro; (focus (first | with_reducible rfl | (simp only [walkR, get0, getS, Nat.zero_add, Nat.add_zero, Bool.not_true, Bool.not_false, decide_true, decide_false, reduceIte, and_self, Bool.false_eq_true, hAl, hd] <;> with_reducible rfl)))) | (with_reducible apply bind2_intro; (focus (first | with_reducible rfl | (simp only [walkR, get0, getS, Nat.zero_add, Nat.add_zero, Bool.not_true, Bool.not_false, decide_true, decide_false, reduceIte, and_self, Bool.false_eq_true, hAl, hd] <;> with_reducible rfl)))) | with_reducible apply cond_t | with_reducible apply cond_f))
      exact cnt_end (n := n + 3) hlim hT hA hD hE (by omega) hN hK

theorem counts {n : Nat} {a0 a1 : AVal} {l : List PAct} {os : List Str} (hA0 : ActsAt H a0 l) (s0 : Sl H 1 a1 (encR os)) (hn : 200000000 ≤ n) :
    ∃ v H', Ahs.runT ap (n + 8) H.next (.fn 11) [a0, a1] H = some (v, H') ∧ v = .bool true := by
  refine F11_run a11 ?_
  unfold F11
  obtain ⟨_, H1, g1, k1, t1, rfl, ok1⟩ := great_c (n := n + 5) (lim := H.next) hA0 (by omega)
  have haw : ∀ G, Ahs.runT ap (n + 7) H.next (.fn 38) [] G = some (.bool true, G) := fun G => b38
  cases t1 with
  | true =>
    (repeat (first | (with_reducible apply bindP_intro; (focus (first | with_reducible rfl | (simp only [walkR, get0, getS, Nat.zero_add, Nat.add_zero, Bool.not_true, Bool.not_false, decide_true, decide_false, reduceIte, and_self, Bool.false_eq_true, g1, haw] <;> with_reducible rfl)))) | (with_reducible apply bind2_intro; (focus (first | with_reducible rfl | (simp only [walkR, get0, getS, Nat.zero_add, Nat.add_zero, Bool.not_true, Bool.not_false, decide_true, decide_false, reduceIte, and_self, Bool.false_eq_true, g1, haw] <;> with_reducible rfl)))) | with_reducible apply cond_t | with_reducible apply cond_f))
    exact rfl
  | false =>
    obtain ⟨len1, ok1, _⟩ := ok1 rfl
    have k1n := k1.next
    obtain ⟨b, m, H2, n1, n2, n3, n4, n5, n6, n7⟩ := new_c (M := fun _ => False) (n := n + 6) (lim := H.next) (H := H1) k1n
    have n3n := n3.next
    obtain ⟨b2, m2, H3, u1, u2, u3, u4, u5, u6, u7⟩ := new_c (M := fun _ => False) (n := n + 6) (lim := H.next) (H := H2) (by omega)
    have hne := n2.ne
    have hne2 := u2.ne
    have d1 : DiskAt (fun c => c = b ∨ c = m ∨ c = b2 ∨ c = m2) H3 b m newD := ⟨u3.cells n2.cells, n2.map.mono (u3.get m n7) fun _ _ _ h => by simp [newD] at h⟩
    have d2 : DiskAt (fun c => c = b ∨ c = m ∨ c = b2 ∨ c = m2) H3 b2 m2 newD := ⟨u2.cells, u2.map.mono rfl fun _ _ _ h => by simp [newD] at h⟩
    (repeat (first | (with_reducible apply bindP_intro; (focus (first | with_reducible rfl | (simp only [walkR, get0, getS, Nat.zero_add, Nat.add_zero, Bool.not_true, Bool.not_false, decide_true, decide_false, reduceIte, and_self, Bool.false_eq_true, g1, n1, u1] <;> with_reducible rfl)))) | (with_reducible apply bind2_intro; (focus (first | with_reducible rfl | (simp only [walkR, get0, getS, Nat.zero_add, Nat.add_zero, Bool.not_true, Bool.not_false, decide_true, decide_false, reduceIte, and_self, Bool.false_eq_true, g1, n1, u1] <;> with_reducible rfl)))) | with_reducible apply cond_t | with_reducible apply cond_f))
    have hl : l.length * 20001 ≤ 2000100 := by omega
    have hA : Apart (fun c => c = b ∨ c = m ∨ c = b2 ∨ c = m2) b m b2 m2 := ⟨.inl rfl, .inr (.inl rfl), .inr (.inr (.inl rfl)), .inr (.inr (.inr rfl)), by omega, by omega, by omega, by omega⟩
    have u3n := u3.next
    exact counts_loop (n := n + 1) (N := n + 7) (M := fun c => c = b ∨ c = m ∨ c = b2 ∨ c = m2) hA (by omega) (by omega) (by omega) (by omega) hA0 s0 (by omega) (by omega) (by omega) (by omega) ok1 len1 (by omega) (by omega) (fun c e => by omega) (fun _ => rfl) (n + 7) 0 H3 newD newD 0 ⟨d1, d2⟩ ⟨rfl, rfl, rfl⟩ newD_ok newD_ok (by simp only [Nat.sub_zero]; omega) ((k1.trans n3).trans u3) (fun c e => by omega) (by omega) (by omega) (Nat.zero_le _)

theorem wf_strs {v : AVal} (h : Wf H (.slice (.str .nil) .nil) [v]) : ∃ os : List Str, Sl H 1 v (encR os) := by
  obtain ⟨v', _, e, _, ⟨xs, h1, h2, h3⟩, _⟩ := h
  simp only [List.cons.injEq] at e
  obtain ⟨rfl, _⟩ := e
  obtain ⟨l, hl, hq⟩ := wf_list (α := Str) (Q := fun x a => x = [.str a]) (fun x hx => by
    obtain ⟨s, vs', rfl, _, rfl⟩ := hx
    exact ⟨s, rfl⟩) h3
  have e := wf_eqs (enc := fun a => [.str a]) hl hq
  exact ⟨l, by unfold encR; rw [← e]; exact h1⟩

theorem counts_walk (H : Heap) (vs : List AVal) (h : WfArgs H [(false, .slice actTy .nil), (false, .slice (.str .nil) .nil)] vs) : ∃ n, isTrue (run ap n H.next 11 vs H) = true := by
  obtain ⟨a0, _, rfl, h0, a1, _, rfl, h1, rfl⟩ := h
  simp only [Bool.false_eq_true, if_false] at h0 h1
  obtain ⟨l0, A0⟩ := wf_acts h0
  obtain ⟨os, s0⟩ := wf_strs h1
  exact ⟨_, isTrue_run (counts (n := 200000000) A0 s0 (Nat.le_refl _))⟩

end
end Go.Proofs.Ytjflpnahjooffaa.disk
