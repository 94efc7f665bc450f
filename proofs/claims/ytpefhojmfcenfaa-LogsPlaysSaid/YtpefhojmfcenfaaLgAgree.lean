/- LogsAgree on the abstract machine. -/
import Derived.Test.YtpefhojmfcenfaaLgPure
set_option maxRecDepth 100000
set_option linter.unusedVariables false
set_option linter.unusedSimpArgs false
namespace Go.Proofs.Ytpefhojmfcenfaa.logs
open Go.Ahs

theorem greatEs_len {es : List Ent} (h : greatEs es = false) : es.length ≤ 40 := by
  unfold greatEs at h
  rw [Bool.or_eq_false_iff] at h
  have := of_decide_eq_false h.1
  omega

theorem ptr_ne (b : Nat) : eqvO false .ptr (ptr b) (.ptr none) = some (.bool false) := rfl
theorem tmod_nat (a b : Nat) : (a : Int).tmod (b : Int) = ((a % b : Nat) : Int) := rfl
theorem rem_nat (k : IntKind) (a b : Nat) (h : 0 < b) : abin .rem (.int k (a : Int)) (.int k (b : Int)) = some (.int k ((a % b : Nat) : Int)) := by
  rw [abin_rem _ _ _ (by omega), tmod_nat]

theorem mem_fromP {L : Lg} {i k : Nat} {e : Ent} (h : e ∈ fromP L i k) : e ∈ L.es := List.mem_of_mem_drop (List.mem_of_mem_take h)
theorem len_fromP (L : Lg) (i k : Nat) : (fromP L i k).length ≤ L.es.length := by unfold fromP; rw [List.length_take, List.length_drop]; omega

/-- Two logs that have the same terms from one index to another. -/
theorem agree_loop {n lim : Nat} {K : AVal → Heap → Prop} {H : Heap} {ba bb : Nat} {va vb : AVal} {A B : Lg} {t0 t21 t26 t27 : AVal} {z : Nat} (hA : LogAt H ba va A) (hB : LogAt H bb vb B) (hbA : A.idx + A.es.length < 9223372036854775808) (hbB : B.idx + B.es.length < 9223372036854775808) (hz : z < 9223372036854775808)
    (hK : F3_j0 (Ahs.runT ap (n + 3)) lim (n + 3) K t0 (ptr bb) t21 t26 t27 H) :
    ∀ (m i : Nat), z + 1 < m + i → i ≤ z + 1 → (∀ j, i ≤ j → j ≤ z → ∃ t, termP A j = some t ∧ termP B j = some t) →
      F3_l0 (Ahs.runT ap (n + 3)) lim (n + 3) K m t0 (ptr ba) (ptr bb) t21 t26 t27 (.int .u64 (z : Int)) (.int .u64 (i : Int)) H
  | 0, i, hm, hi, _ => by exfalso; omega
  | m + 1, i, hm, hi, hs => by
    show F3_s0 _ _ _ _ (F3_l0 _ _ _ _ m) _ _ _ _ _ _ _ _ H
    unfold F3_s0
    by_cases h1 : i ≤ z
    · have hd : decide ((i : Int) ≤ (z : Int)) = true := dT (by omega)
      have hw : IntKind.u64.wrap ((i : Int) + 1) = ((i + 1 : Nat) : Int) := u64_succ (by omega)
      obtain ⟨t, ht1, ht2⟩ := hs i (Nat.le_refl _) h1
      have hq : ((t : Int) != (t : Int)) = false := by simp
      (repeat (first | (with_reducible apply bindP_intro; (focus (first | with_reducible rfl | (simp only [walkR, get0, getS, Nat.zero_add, Nat.add_zero, Bool.not_true, Bool.not_false, decide_true, decide_false, reduceIte, and_self, Bool.false_eq_true, hd, log18 hA hbA (show i < 18446744073709551616 by omega), log18 hB hbB (show i < 18446744073709551616 by omega), ht1, ht2, optT, hq, hw] <;> with_reducible rfl)))) | (with_reducible apply bind2_intro; (focus (first | with_reducible rfl | (simp only [walkR, get0, getS, Nat.zero_add, Nat.add_zero, Bool.not_true, Bool.not_false, decide_true, decide_false, reduceIte, and_self, Bool.false_eq_true, hd, log18 hA hbA (show i < 18446744073709551616 by omega), log18 hB hbB (show i < 18446744073709551616 by omega), ht1, ht2, optT, hq, hw] <;> with_reducible rfl)))) | with_reducible apply cond_t | with_reducible apply cond_f))
      exact agree_loop hA hB hbA hbB hz hK m (i + 1) (by omega) (by omega) (fun j h2 h3 => hs j (by omega) h3)
    · have hd : decide ((i : Int) ≤ (z : Int)) = false := dF (by omega)
      (repeat (first | (with_reducible apply bindP_intro; (focus (first | with_reducible rfl | (simp only [walkR, get0, getS, Nat.zero_add, Nat.add_zero, Bool.not_true, Bool.not_false, decide_true, decide_false, reduceIte, and_self, Bool.false_eq_true, hd] <;> with_reducible rfl)))) | (with_reducible apply bind2_intro; (focus (first | with_reducible rfl | (simp only [walkR, get0, getS, Nat.zero_add, Nat.add_zero, Bool.not_true, Bool.not_false, decide_true, decide_false, reduceIte, and_self, Bool.false_eq_true, hd] <;> with_reducible rfl)))) | with_reducible apply cond_t | with_reducible apply cond_f))
      exact hK

set_option maxHeartbeats 2000000 in
theorem agree {n lim : Nat} {H : Heap} {wl wm wr wo : AVal} {l m : List Ent} {rs os : List Nat} (hl : Es H wl l) (hm : Es H wm m) (hr : Bs H wr rs) (ho : Bs H wo os) (okl : ∀ e ∈ l, e.ok) (okm : ∀ e ∈ m, e.ok) (hrl : rs.length ≤ 9223372036854775807) (hol : os.length ≤ 9223372036854775807)
    (hlim : lim ≤ H.next) {i t mb fm mn : Nat} (hi0 : i < 18446744073709551616) (ht0 : t < 18446744073709551616) (hfm : fm < 256) (hmn : mn < 256) :
    ∃ r H', Ahs.runT ap (n + 100) lim (.fn 3) [.int .u64 (i : Int), .int .u64 (t : Int), .int .u8 (mb : Int), wl, wm, wr, wo, .int .u8 (fm : Int), .int .u8 (mn : Int)] H = some (r, H') ∧ r = .bool true := by
  refine F3_run (n := n + 99) a3 ?_
  unfold F3
  have gl : Ahs.runT ap (n + 99) lim (.fn 15) [wl] H = _ := great15 (n := n + 98) (lim := lim) hl (by omega)
  have gm : Ahs.runT ap (n + 99) lim (.fn 15) [wm] H = _ := great15 (n := n + 98) (lim := lim) hm (by omega)
  cases hg1 : greatEs l with
  | true => (repeat (first | (with_reducible apply bindP_intro; (focus (first | with_reducible rfl | (simp only [walkR, get0, getS, Nat.zero_add, Nat.add_zero, Bool.not_true, Bool.not_false, decide_true, decide_false, reduceIte, and_self, Bool.false_eq_true, gl, hg1, b16] <;> with_reducible rfl)))) | (with_reducible apply bind2_intro; (focus (first | with_reducible rfl | (simp only [walkR, get0, getS, Nat.zero_add, Nat.add_zero, Bool.not_true, Bool.not_false, decide_true, decide_false, reduceIte, and_self, Bool.false_eq_true, gl, hg1, b16] <;> with_reducible rfl)))) | with_reducible apply cond_t | with_reducible apply cond_f)); rfl
  | false =>
  cases hg2 : greatEs m with
  | true => (repeat (first | (with_reducible apply bindP_intro; (focus (first | with_reducible rfl | (simp only [walkR, get0, getS, Nat.zero_add, Nat.add_zero, Bool.not_true, Bool.not_false, decide_true, decide_false, reduceIte, and_self, Bool.false_eq_true, gl, hg1, gm, hg2, b16] <;> with_reducible rfl)))) | (with_reducible apply bind2_intro; (focus (first | with_reducible rfl | (simp only [walkR, get0, getS, Nat.zero_add, Nat.add_zero, Bool.not_true, Bool.not_false, decide_true, decide_false, reduceIte, and_self, Bool.false_eq_true, gl, hg1, gm, hg2, b16] <;> with_reducible rfl)))) | with_reducible apply cond_t | with_reducible apply cond_f)); rfl
  | false =>
  by_cases hi : 1152921504606846976 < i
  · have hd : decide ((1152921504606846976 : Int) < (i : Int)) = true := dT (by omega)
    (repeat (first | (with_reducible apply bindP_intro; (focus (first | with_reducible rfl | (simp only [walkR, get0, getS, Nat.zero_add, Nat.add_zero, Bool.not_true, Bool.not_false, decide_true, decide_false, reduceIte, and_self, Bool.false_eq_true, gl, hg1, gm, hg2, hd, b16] <;> with_reducible rfl)))) | (with_reducible apply bind2_intro; (focus (first | with_reducible rfl | (simp only [walkR, get0, getS, Nat.zero_add, Nat.add_zero, Bool.not_true, Bool.not_false, decide_true, decide_false, reduceIte, and_self, Bool.false_eq_true, gl, hg1, gm, hg2, hd, b16] <;> with_reducible rfl)))) | with_reducible apply cond_t | with_reducible apply cond_f))
    rfl
  have hdi : decide ((1152921504606846976 : Int) < (i : Int)) = false := dF (by omega)
  by_cases ht : 1152921504606846976 < t
  · have hd : decide ((1152921504606846976 : Int) < (t : Int)) = true := dT (by omega)
    (repeat (first | (with_reducible apply bindP_intro; (focus (first | with_reducible rfl | (simp only [walkR, get0, getS, Nat.zero_add, Nat.add_zero, Bool.not_true, Bool.not_false, decide_true, decide_false, reduceIte, and_self, Bool.false_eq_true, gl, hg1, gm, hg2, hdi, hd, b16] <;> with_reducible rfl)))) | (with_reducible apply bind2_intro; (focus (first | with_reducible rfl | (simp only [walkR, get0, getS, Nat.zero_add, Nat.add_zero, Bool.not_true, Bool.not_false, decide_true, decide_false, reduceIte, and_self, Bool.false_eq_true, gl, hg1, gm, hg2, hdi, hd, b16] <;> with_reducible rfl)))) | with_reducible apply cond_t | with_reducible apply cond_f))
    rfl
  have hdt : decide ((1152921504606846976 : Int) < (t : Int)) = false := dF (by omega)
  have hll := greatEs_len hg1
  have hml := greatEs_len hg2
  (repeat (first | (with_reducible apply bindP_intro; (focus (first | with_reducible rfl | (simp only [walkR, get0, getS, Nat.zero_add, Nat.add_zero, Bool.not_true, Bool.not_false, decide_true, decide_false, reduceIte, and_self, Bool.false_eq_true, gl, hg1, gm, hg2, hdi, hdt] <;> with_reducible rfl)))) | (with_reducible apply bind2_intro; (focus (first | with_reducible rfl | (simp only [walkR, get0, getS, Nat.zero_add, Nat.add_zero, Bool.not_true, Bool.not_false, decide_true, decide_false, reduceIte, and_self, Bool.false_eq_true, gl, hg1, gm, hg2, hdi, hdt] <;> with_reducible rfl)))) | with_reducible apply cond_t | with_reducible apply cond_f))
  refine bind2_of (grown17 (n := n + 94) (m := mb) hl hr (by omega) hrl hlim (by omega) (by omega : i ≤ 1152921504606846976) (by omega : t ≤ 1152921504606846976)) ?_
  rintro _ H1 ⟨ba, va, rfl, hA, hba, hva, k1⟩
  refine bind2_of (grown17 (n := n + 94) (m := mb) (hm.keep k1) (ho.keep k1) (by omega) hol (Nat.le_trans hlim k1.next) (by omega) (by omega : i ≤ 1152921504606846976) (by omega : t ≤ 1152921504606846976)) ?_
  rintro _ H2 ⟨bb, vb, rfl, hB, hbb, hvb, k2⟩
  have fA : (grownP rs 0 t ⟨i, t, mb, []⟩ l).Fits := grownP_fits rs l 0 t _ rfl
  have fB : (grownP os 0 t ⟨i, t, mb, []⟩ m).Fits := grownP_fits os m 0 t _ rfl
  have okA := grownP_ok rs l 0 t ⟨i, t, mb, []⟩ t rfl (fun _ h => by simp at h) okl (fun _ h => by simp at h) (Nat.le_refl _) (Nat.le_refl _) (by omega) (by show i + 0 + l.length < _; omega)
  obtain ⟨iA, _, _, nA⟩ := grownP_idx rs l 0 t ⟨i, t, mb, []⟩
  obtain ⟨iB, _, _, nB⟩ := grownP_idx os m 0 t ⟨i, t, mb, []⟩
  generalize grownP rs 0 t ⟨i, t, mb, []⟩ l = A at *
  generalize grownP os 0 t ⟨i, t, mb, []⟩ m = B at *
  have iA' : A.idx = i := iA
  have iB' : B.idx = i := iB
  have nA' : A.es.length = l.length := by rw [nA]; simp
  have nB' : B.es.length = m.length := by rw [nB]; simp
  have hA2 := hA.keep k2
  have n1 := k1.next
  have n2 := k2.next
  have wfm : IntKind.u64.wrap (fm : Int) = (fm : Int) := wrap_u64 (by omega) (by omega)
  have wll : IntKind.u64.wrap (l.length : Int) = (l.length : Int) := wrap_u64 (by omega) (by omega)
  have wl1 : IntKind.u64.wrap ((l.length : Int) + 1) = ((l.length + 1 : Nat) : Int) := u64_succ (by omega)
  generalize hq : fm % (l.length + 1) = q
  have hql : q ≤ l.length := by
    have h := Nat.mod_lt fm (show l.length + 1 > 0 by omega)
    rw [hq] at h
    omega
  have hrem := rem_nat .u64 fm (l.length + 1) (by omega)
  have wat : IntKind.u64.wrap ((i : Int) + (q : Int)) = ((i + q : Nat) : Int) := by rw [wrap_u64 (by omega) (by omega)]; omega
  have wat1 : IntKind.u64.wrap (((i + q : Nat) : Int) + 1) = ((i + q + 1 : Nat) : Int) := u64_succ (by omega)
  have wmn : IntKind.i64.wrap (mn : Int) = (mn : Int) := wrap_i64 (by omega) (by omega)
  obtain ⟨ta, hta, hfp, hpe⟩ := from_facts (many := mn) fA (q := q) (by omega)
  rw [iA'] at hta hfp hpe
  have hbA : A.idx + A.es.length < 9223372036854775808 := by omega
  have hbB : B.idx + B.es.length < 9223372036854775808 := by omega
  have hrm : room = 140737488355328 := rfl
  have hput : ∀ e ∈ fromP A (i + q + 1) mn, e.ok := fun e he => okA e (mem_fromP he)
  have hpl : (fromP A (i + q + 1) mn).length ≤ 40 := by have := len_fromP A (i + q + 1) mn; omega
  have hBall : fromP B 0 1048576 = B.es := fromP_all (by omega)
  have hj : joinsP B (i + q) ta (fromP A (i + q + 1) mn) = decide (termP B (i + q) = some ta) := by
    unfold joinsP
    rw [hfp, Bool.true_and, if_neg (by omega)]
  have hlA : Ahs.runT ap (n + 99) lim (.fn 18) [ptr ba, .int .u64 ((i + q : Nat) : Int)] H2 = _ := log18 (n := n + 96) hA2 hbA (show i + q < 18446744073709551616 by omega)
  have hlB : Ahs.runT ap (n + 99) lim (.fn 18) [ptr bb, .int .u64 ((i + q : Nat) : Int)] H2 = _ := log18 (n := n + 96) hB hbB (show i + q < 18446744073709551616 by omega)
  have hlH := (hl.keep (k1.trans k2)).len
  cases hcase : termP B (i + q) with
  | none =>
    (repeat (first | (with_reducible apply bindP_intro; (focus (first | with_reducible rfl | (simp only [walkR, get0, getS, Nat.zero_add, Nat.add_zero, Bool.not_true, Bool.not_false, decide_true, decide_false, reduceIte, and_self, Bool.false_eq_true, ptr_ne, wfm, hlH, wll, wl1, hrem, hq, wat, hlA, hlB, hta, optT, hcase] <;> with_reducible rfl)))) | (with_reducible apply bind2_intro; (focus (first | with_reducible rfl | (simp only [walkR, get0, getS, Nat.zero_add, Nat.add_zero, Bool.not_true, Bool.not_false, decide_true, decide_false, reduceIte, and_self, Bool.false_eq_true, ptr_ne, wfm, hlH, wll, wl1, hrem, hq, wat, hlA, hlB, hta, optT, hcase] <;> with_reducible rfl)))) | with_reducible apply cond_t | with_reducible apply cond_f))
    refine bind2_of (log19 (n := n + 96) hB (by omega) (by omega) (by omega) (i := 0) (most := 1048576) (by omega) (by omega)) ?_
    rintro w3 H3 ⟨⟨b3, o3⟩, k3, f3⟩
    rw [hBall] at o3
    have n3 := k3.next
    (repeat (first | (with_reducible apply bindP_intro; (focus (first | with_reducible rfl | (simp only [walkR, get0, getS, Nat.zero_add, Nat.add_zero, Bool.not_true, Bool.not_false, decide_true, decide_false, reduceIte, and_self, Bool.false_eq_true, wat1, wmn] <;> with_reducible rfl)))) | (with_reducible apply bind2_intro; (focus (first | with_reducible rfl | (simp only [walkR, get0, getS, Nat.zero_add, Nat.add_zero, Bool.not_true, Bool.not_false, decide_true, decide_false, reduceIte, and_self, Bool.false_eq_true, wat1, wmn] <;> with_reducible rfl)))) | with_reducible apply cond_t | with_reducible apply cond_f))
    refine bind2_of (log19 (n := n + 96) (hA2.keep k3) (by omega) (by omega) (by omega) (i := i + q + 1) (most := mn) (by omega) (by omega)) ?_
    rintro w4 H4 ⟨⟨b4, o4⟩, k4, f4⟩
    have n4 := k4.next
    have hB4 := (hB.keep k3).keep k4
    have lowB : ∀ c, foot bb vb c → lim ≤ c := by
      rintro c (rfl | hc)
      · omega
      · have := hvb c hc; omega
    (repeat (first | (with_reducible apply bindP_intro; (focus (first | with_reducible rfl | (simp only [walkR, get0, getS, Nat.zero_add, Nat.add_zero, Bool.not_true, Bool.not_false, decide_true, decide_false, reduceIte, and_self, Bool.false_eq_true] <;> with_reducible rfl)))) | (with_reducible apply bind2_intro; (focus (first | with_reducible rfl | (simp only [walkR, get0, getS, Nat.zero_add, Nat.add_zero, Bool.not_true, Bool.not_false, decide_true, decide_false, reduceIte, and_self, Bool.false_eq_true] <;> with_reducible rfl)))) | with_reducible apply cond_t | with_reducible apply cond_f))
    refine bind2_of (log20 (n := n + 94) (t := ta) hB4 hbB (by omega) (o4.sl : Es H4 w4 _) hput (by omega) (by omega) (by omega) lowB (fun b hb e => by
      have := f4 b hb
      have := hB.lt bb (.inl rfl)
      omega) (by omega)) ?_
    rintro r5 H5 hp
    rw [hj] at hp
    rw [dF (by rw [hcase]; simp)] at hp
    simp only [Bool.false_eq_true, if_false] at hp
    obtain ⟨rfl, k5⟩ := hp
    (repeat (first | (with_reducible apply bindP_intro; (focus (first | with_reducible rfl | (simp only [walkR, get0, getS, Nat.zero_add, Nat.add_zero, Bool.not_true, Bool.not_false, decide_true, decide_false, reduceIte, and_self, Bool.false_eq_true, eqvO_bool, show (false == false) = true from rfl] <;> with_reducible rfl)))) | (with_reducible apply bind2_intro; (focus (first | with_reducible rfl | (simp only [walkR, get0, getS, Nat.zero_add, Nat.add_zero, Bool.not_true, Bool.not_false, decide_true, decide_false, reduceIte, and_self, Bool.false_eq_true, eqvO_bool, show (false == false) = true from rfl] <;> with_reducible rfl)))) | with_reducible apply cond_t | with_reducible apply cond_f))
    have n5 := k5.next
    refine bind2_of (log19 (n := n + 96) (hB4.keep k5) (by omega) (by omega) (by omega) (i := 0) (most := 1048576) (by omega) (by omega)) ?_
    rintro w6 H6 ⟨⟨b6, o6⟩, k6, f6⟩
    rw [hBall] at o6
    have hsame : Ahs.runT ap (n + 99) lim (.fn 21) [w6, w3] H6 = _ := same21 (n := n + 98) (o6.sl : Es H6 w6 _) ((o3.sl.keep ((k4.trans k5).trans k6)) : Es H6 w3 _) (by omega) (by omega)
    (repeat (first | (with_reducible apply bindP_intro; (focus (first | with_reducible rfl | (simp only [walkR, get0, getS, Nat.zero_add, Nat.add_zero, Bool.not_true, Bool.not_false, decide_true, decide_false, reduceIte, and_self, Bool.false_eq_true, hsame, b16] <;> with_reducible rfl)))) | (with_reducible apply bind2_intro; (focus (first | with_reducible rfl | (simp only [walkR, get0, getS, Nat.zero_add, Nat.add_zero, Bool.not_true, Bool.not_false, decide_true, decide_false, reduceIte, and_self, Bool.false_eq_true, hsame, b16] <;> with_reducible rfl)))) | with_reducible apply cond_t | with_reducible apply cond_f))
    rfl
  | some tb =>
  by_cases hte : tb = ta
  · subst hte
    (repeat (first | (with_reducible apply bindP_intro; (focus (first | with_reducible rfl | (simp only [walkR, get0, getS, Nat.zero_add, Nat.add_zero, Bool.not_true, Bool.not_false, decide_true, decide_false, reduceIte, and_self, Bool.false_eq_true, ptr_ne, wfm, hlH, wll, wl1, hrem, hq, wat, hlA, hlB, hta, optT, hcase] <;> with_reducible rfl)))) | (with_reducible apply bind2_intro; (focus (first | with_reducible rfl | (simp only [walkR, get0, getS, Nat.zero_add, Nat.add_zero, Bool.not_true, Bool.not_false, decide_true, decide_false, reduceIte, and_self, Bool.false_eq_true, ptr_ne, wfm, hlH, wll, wl1, hrem, hq, wat, hlA, hlB, hta, optT, hcase] <;> with_reducible rfl)))) | with_reducible apply cond_t | with_reducible apply cond_f))
    refine bind2_of (log19 (n := n + 96) hB (by omega) (by omega) (by omega) (i := 0) (most := 1048576) (by omega) (by omega)) ?_
    rintro w3 H3 ⟨⟨b3, o3⟩, k3, f3⟩
    rw [hBall] at o3
    have n3 := k3.next
    (repeat (first | (with_reducible apply bindP_intro; (focus (first | with_reducible rfl | (simp only [walkR, get0, getS, Nat.zero_add, Nat.add_zero, Bool.not_true, Bool.not_false, decide_true, decide_false, reduceIte, and_self, Bool.false_eq_true, wat1, wmn] <;> with_reducible rfl)))) | (with_reducible apply bind2_intro; (focus (first | with_reducible rfl | (simp only [walkR, get0, getS, Nat.zero_add, Nat.add_zero, Bool.not_true, Bool.not_false, decide_true, decide_false, reduceIte, and_self, Bool.false_eq_true, wat1, wmn] <;> with_reducible rfl)))) | with_reducible apply cond_t | with_reducible apply cond_f))
    refine bind2_of (log19 (n := n + 96) (hA2.keep k3) (by omega) (by omega) (by omega) (i := i + q + 1) (most := mn) (by omega) (by omega)) ?_
    rintro w4 H4 ⟨⟨b4, o4⟩, k4, f4⟩
    have n4 := k4.next
    have hB4 := (hB.keep k3).keep k4
    have lowB : ∀ c, foot bb vb c → lim ≤ c := by
      rintro c (rfl | hc)
      · omega
      · have := hvb c hc; omega
    (repeat (first | (with_reducible apply bindP_intro; (focus (first | with_reducible rfl | (simp only [walkR, get0, getS, Nat.zero_add, Nat.add_zero, Bool.not_true, Bool.not_false, decide_true, decide_false, reduceIte, and_self, Bool.false_eq_true] <;> with_reducible rfl)))) | (with_reducible apply bind2_intro; (focus (first | with_reducible rfl | (simp only [walkR, get0, getS, Nat.zero_add, Nat.add_zero, Bool.not_true, Bool.not_false, decide_true, decide_false, reduceIte, and_self, Bool.false_eq_true] <;> with_reducible rfl)))) | with_reducible apply cond_t | with_reducible apply cond_f))
    refine bind2_of (log20 (n := n + 94) (t := tb) hB4 hbB (by omega) (o4.sl : Es H4 w4 _) hput (by omega) (by omega) (by omega) lowB (fun b hb e => by
      have := f4 b hb
      have := hB.lt bb (.inl rfl)
      omega) (by omega)) ?_
    rintro r5 H5 hp
    rw [hj] at hp
    rw [dT hcase] at hp
    simp only [if_true] at hp
    obtain ⟨f, vb', bf, rfl, hB5, o5, fr5, hvb', hf'⟩ := hp
    have pf := put_facts (L := B) (i := i + q) (t := tb) (es := fromP A (i + q + 1) mn) (by omega) hcase hfp
    have hB5' : LogAt H5 bb vb' (putP B (fromP A (i + q + 1) mn)) := hB5
    have hmax : max (i + q + (fromP A (i + q + 1) mn).length) B.idx = i + q + (fromP A (i + q + 1) mn).length := by omega
    rw [hmax]
    generalize hB' : putP B (fromP A (i + q + 1) mn) = B' at pf hB5'
    have hA5 : LogAt H5 ba va A := (((hA2.keep k3).keep k4)).frame fr5 (fun c hc hfc => by
      have hc1 := hA.lt c hc
      rcases hfc with rfl | hfc
      · omega
      · have := hvb c hfc; omega)
    have w5l : Es H5 w4 (fromP A (i + q + 1) mn) := Sl.frame fr5 o4.sl (fun c hc hfc => by
      have h1 := f4 c hc
      have h2 := hB4.lt c hfc
      have h3 := hB.lt bb (.inl rfl)
      rcases hfc with rfl | hfc
      · omega
      · have := hB.lt c (.inr hfc); omega)
    have w5w : Es H5 w3 B.es := Sl.frame fr5 (o3.sl.keep k4) (fun c hc hfc => by
      have h1 := f3 c hc
      rcases hfc with rfl | hfc
      · have := hB.lt c (.inl rfl); omega
      · have := hB.lt c (.inr hfc); omega)
    have wpl : IntKind.u64.wrap ((fromP A (i + q + 1) mn).length : Int) = ((fromP A (i + q + 1) mn).length : Int) := wrap_u64 (by omega) (by omega)
    have wsum : IntKind.u64.wrap (((i + q : Nat) : Int) + ((fromP A (i + q + 1) mn).length : Int)) = ((i + q + (fromP A (i + q + 1) mn).length : Nat) : Int) := by rw [wrap_u64 (by omega) (by omega)]; omega
    have hqe : ((tb : Int) == (tb : Int)) = true := by simp
    have hne : (((i + q + (fromP A (i + q + 1) mn).length : Nat) : Int) != ((i + q + (fromP A (i + q + 1) mn).length : Nat) : Int)) = false := by simp
    have tt : (true == true) = true := rfl
    (repeat (first | (with_reducible apply bindP_intro; (focus (first | with_reducible rfl | (simp only [walkR, get0, getS, Nat.zero_add, Nat.add_zero, Bool.not_true, Bool.not_false, decide_true, decide_false, reduceIte, and_self, Bool.false_eq_true, hqe, eqvO_bool, tt, w5l.len, wpl, wsum, hne] <;> with_reducible rfl)))) | (with_reducible apply bind2_intro; (focus (first | with_reducible rfl | (simp only [walkR, get0, getS, Nat.zero_add, Nat.add_zero, Bool.not_true, Bool.not_false, decide_true, decide_false, reduceIte, and_self, Bool.false_eq_true, hqe, eqvO_bool, tt, w5l.len, wpl, wsum, hne] <;> with_reducible rfl)))) | with_reducible apply cond_t | with_reducible apply cond_f))
    have hle := pf.le
    have hidx := pf.idx
    have hbB' : B'.idx + B'.es.length < 9223372036854775808 := by have := pf.idx; omega
    refine agree_loop (n := n + 96) (z := i + q + (fromP A (i + q + 1) mn).length) hA5 hB5' hbA hbB' (by omega) ?_ (n + 99) (i + q) (by omega) (by omega) (fun j h1 h2 => ?_)
    · unfold F3_j0
      have wd : IntKind.u64.wrap (((i + q : Nat) : Int) - (i : Int)) = (q : Int) := by rw [wrap_u64 (by omega) (by omega)]; omega
      have wd2 : IntKind.i64.wrap (q : Int) = (q : Int) := wrap_i64 (by omega) (by omega)
      (repeat (first | (with_reducible apply bindP_intro; (focus (first | with_reducible rfl | (simp only [walkR, get0, getS, Nat.zero_add, Nat.add_zero, Bool.not_true, Bool.not_false, decide_true, decide_false, reduceIte, and_self, Bool.false_eq_true, wd, wd2] <;> with_reducible rfl)))) | (with_reducible apply bind2_intro; (focus (first | with_reducible rfl | (simp only [walkR, get0, getS, Nat.zero_add, Nat.add_zero, Bool.not_true, Bool.not_false, decide_true, decide_false, reduceIte, and_self, Bool.false_eq_true, wd, wd2] <;> with_reducible rfl)))) | with_reducible apply cond_t | with_reducible apply cond_f))
      have n5 := fr5.next
      refine bind2_of (log19 (n := n + 96) hB5' (by omega) (by omega) (by omega) (i := 0) (most := 1048576) (by omega) (by omega)) ?_
      rintro w6 H6 ⟨⟨b6, o6⟩, k6, f6⟩
      rw [fromP_all (by omega)] at o6
      have es6 : Es H6 w6 B'.es := o6.sl
      have es3 : Es H6 w3 B.es := w5w.keep k6
      have hlen' := pf.len
      have wqp : IntKind.i64.wrap ((q : Int) + ((fromP A (i + q + 1) mn).length : Int)) = ((q + (fromP A (i + q + 1) mn).length : Nat) : Int) := by rw [wrap_i64 (by omega) (by omega)]; omega
      have hge : decide (((q + (fromP A (i + q + 1) mn).length : Nat) : Int) ≤ (B'.es.length : Int)) = true := dT (by omega)
      obtain ⟨s1, x1, y1, _⟩ := Sl.slice es6 (lo := none) (hi := some (.int .i64 (q : Int))) (l := 0) (k := q) rfl (natOf_nat .i64 q) (Nat.zero_le _) (by simp; omega)
      obtain ⟨s2, x2, y2, _⟩ := Sl.slice es3 (lo := none) (hi := some (.int .i64 (q : Int))) (l := 0) (k := q) rfl (natOf_nat .i64 q) (Nat.zero_le _) (by simp; have := termP_some hcase; omega)
      have z1 : Es H6 s1 (B'.es.take q) := by unfold Es; rw [List.map_take]; simpa using y1
      have z2 : Es H6 s2 (B.es.take q) := by unfold Es; rw [List.map_take]; simpa using y2
      have hah := pf.ahead
      have hqq : i + q - B.idx = q := by omega
      rw [hqq] at hah
      have hsame : Ahs.runT ap (n + 99) lim (.fn 21) [s1, s2] H6 = _ := same21 (n := n + 98) z1 z2 (by rw [List.length_take]; omega) (by rw [List.length_take]; omega)
      (repeat (first | (with_reducible apply bindP_intro; (focus (first | with_reducible rfl | (simp only [walkR, get0, getS, Nat.zero_add, Nat.add_zero, Bool.not_true, Bool.not_false, decide_true, decide_false, reduceIte, and_self, Bool.false_eq_true, es6.len, (w5l.keep k6).len, wqp, hge, x1, x2, hsame, dT hah, b16] <;> with_reducible rfl)))) | (with_reducible apply bind2_intro; (focus (first | with_reducible rfl | (simp only [walkR, get0, getS, Nat.zero_add, Nat.add_zero, Bool.not_true, Bool.not_false, decide_true, decide_false, reduceIte, and_self, Bool.false_eq_true, es6.len, (w5l.keep k6).len, wqp, hge, x1, x2, hsame, dT hah, b16] <;> with_reducible rfl)))) | with_reducible apply cond_t | with_reducible apply cond_f))
      rfl
    · by_cases hj' : j = i + q
      · subst hj'
        exact ⟨tb, hta, pf.at'⟩
      · have hk : j - (i + q) - 1 < (fromP A (i + q + 1) mn).length := by omega
        have hg := List.getElem?_eq_getElem hk
        have h4 := pf.get _ _ hg
        have h5 : i + q + (j - (i + q) - 1) + 1 = j := by omega
        rw [h5] at h4
        refine ⟨_, ?_, h4⟩
        have h6 : A.es[q + (j - (i + q) - 1)]? = some (fromP A (i + q + 1) mn)[j - (i + q) - 1] := by
          rw [← hg, hpe, List.getElem?_take, if_pos (by
            have := hk
            rw [hpe, List.length_take] at this
            omega), List.getElem?_drop]
        unfold termP
        have h7 : q + (j - (i + q) - 1) < A.es.length := by
          rcases Nat.lt_or_ge (q + (j - (i + q) - 1)) A.es.length with h | h
          · exact h
          · rw [List.getElem?_eq_none h] at h6; simp at h6
        rw [if_pos ⟨by omega, by omega⟩]
        have h8 : j - A.idx - 1 = q + (j - (i + q) - 1) := by omega
        rw [h8, h6]; rfl
  · have hqe : ((ta : Int) == (tb : Int)) = false := by rw [Bool.eq_false_iff]; simp; omega
    (repeat (first | (with_reducible apply bindP_intro; (focus (first | with_reducible rfl | (simp only [walkR, get0, getS, Nat.zero_add, Nat.add_zero, Bool.not_true, Bool.not_false, decide_true, decide_false, reduceIte, and_self, Bool.false_eq_true, ptr_ne, wfm, hlH, wll, wl1, hrem, hq, wat, hlA, hlB, hta, optT, hcase] <;> with_reducible rfl)))) | (with_reducible apply bind2_intro; (focus (first | with_reducible rfl | (simp only [walkR, get0, getS, Nat.zero_add, Nat.add_zero, Bool.not_true, Bool.not_false, decide_true, decide_false, reduceIte, and_self, Bool.false_eq_true, ptr_ne, wfm, hlH, wll, wl1, hrem, hq, wat, hlA, hlB, hta, optT, hcase] <;> with_reducible rfl)))) | with_reducible apply cond_t | with_reducible apply cond_f))
    refine bind2_of (log19 (n := n + 96) hB (by omega) (by omega) (by omega) (i := 0) (most := 1048576) (by omega) (by omega)) ?_
    rintro w3 H3 ⟨⟨b3, o3⟩, k3, f3⟩
    rw [hBall] at o3
    have n3 := k3.next
    (repeat (first | (with_reducible apply bindP_intro; (focus (first | with_reducible rfl | (simp only [walkR, get0, getS, Nat.zero_add, Nat.add_zero, Bool.not_true, Bool.not_false, decide_true, decide_false, reduceIte, and_self, Bool.false_eq_true, wat1, wmn] <;> with_reducible rfl)))) | (with_reducible apply bind2_intro; (focus (first | with_reducible rfl | (simp only [walkR, get0, getS, Nat.zero_add, Nat.add_zero, Bool.not_true, Bool.not_false, decide_true, decide_false, reduceIte, and_self, Bool.false_eq_true, wat1, wmn] <;> with_reducible rfl)))) | with_reducible apply cond_t | with_reducible apply cond_f))
    refine bind2_of (log19 (n := n + 96) (hA2.keep k3) (by omega) (by omega) (by omega) (i := i + q + 1) (most := mn) (by omega) (by omega)) ?_
    rintro w4 H4 ⟨⟨b4, o4⟩, k4, f4⟩
    have n4 := k4.next
    have hB4 := (hB.keep k3).keep k4
    have lowB : ∀ c, foot bb vb c → lim ≤ c := by
      rintro c (rfl | hc)
      · omega
      · have := hvb c hc; omega
    (repeat (first | (with_reducible apply bindP_intro; (focus (first | with_reducible rfl | (simp only [walkR, get0, getS, Nat.zero_add, Nat.add_zero, Bool.not_true, Bool.not_false, decide_true, decide_false, reduceIte, and_self, Bool.false_eq_true] <;> with_reducible rfl)))) | (with_reducible apply bind2_intro; (focus (first | with_reducible rfl | (simp only [walkR, get0, getS, Nat.zero_add, Nat.add_zero, Bool.not_true, Bool.not_false, decide_true, decide_false, reduceIte, and_self, Bool.false_eq_true] <;> with_reducible rfl)))) | with_reducible apply cond_t | with_reducible apply cond_f))
    refine bind2_of (log20 (n := n + 94) (t := ta) hB4 hbB (by omega) (o4.sl : Es H4 w4 _) hput (by omega) (by omega) (by omega) lowB (fun b hb e => by
      have := f4 b hb
      have := hB.lt bb (.inl rfl)
      omega) (by omega)) ?_
    rintro r5 H5 hp
    rw [hj] at hp
    rw [dF (by rw [hcase]; simpa using hte)] at hp
    simp only [Bool.false_eq_true, if_false] at hp
    obtain ⟨rfl, k5⟩ := hp
    (repeat (first | (with_reducible apply bindP_intro; (focus (first | with_reducible rfl | (simp only [walkR, get0, getS, Nat.zero_add, Nat.add_zero, Bool.not_true, Bool.not_false, decide_true, decide_false, reduceIte, and_self, Bool.false_eq_true, hqe, eqvO_bool, show (false == false) = true from rfl] <;> with_reducible rfl)))) | (with_reducible apply bind2_intro; (focus (first | with_reducible rfl | (simp only [walkR, get0, getS, Nat.zero_add, Nat.add_zero, Bool.not_true, Bool.not_false, decide_true, decide_false, reduceIte, and_self, Bool.false_eq_true, hqe, eqvO_bool, show (false == false) = true from rfl] <;> with_reducible rfl)))) | with_reducible apply cond_t | with_reducible apply cond_f))
    have n5 := k5.next
    refine bind2_of (log19 (n := n + 96) (hB4.keep k5) (by omega) (by omega) (by omega) (i := 0) (most := 1048576) (by omega) (by omega)) ?_
    rintro w6 H6 ⟨⟨b6, o6⟩, k6, f6⟩
    rw [hBall] at o6
    have hsame : Ahs.runT ap (n + 99) lim (.fn 21) [w6, w3] H6 = _ := same21 (n := n + 98) (o6.sl : Es H6 w6 _) ((o3.sl.keep ((k4.trans k5).trans k6)) : Es H6 w3 _) (by omega) (by omega)
    (repeat (first | (with_reducible apply bindP_intro; (focus (first | with_reducible rfl | (simp only [walkR, get0, getS, Nat.zero_add, Nat.add_zero, Bool.not_true, Bool.not_false, decide_true, decide_false, reduceIte, and_self, Bool.false_eq_true, hsame, b16] <;> with_reducible rfl)))) | (with_reducible apply bind2_intro; (focus (first | with_reducible rfl | (simp only [walkR, get0, getS, Nat.zero_add, Nat.add_zero, Bool.not_true, Bool.not_false, decide_true, decide_false, reduceIte, and_self, Bool.false_eq_true, hsame, b16] <;> with_reducible rfl)))) | with_reducible apply cond_t | with_reducible apply cond_f))
    rfl

end Go.Proofs.Ytpefhojmfcenfaa.logs
