/- LogsPlays on the abstract machine. -/
/- LogsPlays's call. -/
import Derived.Test.YtpefhojmfcenfaaLgDoes
import Derived.Test.YtpefhojmfcenfaaLgAgreeW
set_option maxRecDepth 100000
set_option linter.unusedVariables false
set_option linter.unusedSimpArgs false
namespace Go.Proofs.Ytpefhojmfcenfaa.logs
open Go.Ahs

theorem act_facts {L : Lg} (hf : L.Fits) {a : Act} {B : Nat} (hi : a.idx + 40 ≤ B) (hB : L.idx + L.es.length + 1 ≤ B) (hae : a.es.length ≤ 40) :
    (actP L a).Fits ∧ (actP L a).idx + (actP L a).es.length ≤ B ∧ (actP L a).es.length ≤ L.es.length + 40 := by
  have same : L.Fits ∧ L.idx + L.es.length ≤ B ∧ L.es.length ≤ L.es.length + 40 := ⟨hf, by omega, by omega⟩
  have hlast := hf.last
  unfold actP
  split
  · cases a.es.head? with
    | none => exact same
    | some e =>
      refine ⟨hf.add e, ?_, ?_⟩
      · show L.idx + (L.es ++ [_]).length ≤ _
        simp; omega
      · show (L.es ++ [_]).length ≤ _
        simp
  · split
    · split
      · rename_i hj
        have := put_ok hf (joins_JO hj)
        exact ⟨this.fits, by have := this.sum; omega, by have := this.len; omega⟩
      · exact same
    · split
      · by_cases hc : cutCode L a.idx = 0
        · have h1 : L.idx ≤ a.idx ∧ a.idx ≤ L.idx + L.es.length := by
            unfold cutCode at hc
            split at hc
            · omega
            · split at hc
              · omega
              · omega
          obtain ⟨_, q1, q2, q3, _⟩ := cut_facts hf h1.1 h1.2
          refine ⟨q1, ?_, ?_⟩
          · rw [q2, q3, List.length_drop]; omega
          · rw [q3, List.length_drop]; omega
        · have : cutP L a.idx = L := by unfold cutP; rw [if_neg hc]
          rw [this]; exact same
      · split
        · by_cases ht : termP L a.idx = some a.term
          · have hti := termP_some ht
            obtain ⟨t', q1, q2⟩ := hf.split (q := a.idx - L.idx) (by omega)
            rw [show L.idx + (a.idx - L.idx) = a.idx by omega] at q1 q2
            rw [ht] at q1
            simp at q1
            subst q1
            have hP : resetP L a.idx a.term a.mem = ⟨a.idx, a.term, a.mem, L.es.drop (a.idx - L.idx)⟩ := by unfold resetP; rw [if_pos ht]
            rw [hP]
            refine ⟨q2, ?_, ?_⟩
            · show a.idx + (L.es.drop _).length ≤ _
              rw [List.length_drop]; omega
            · show (L.es.drop _).length ≤ _
              rw [List.length_drop]; omega
          · have hP : resetP L a.idx a.term a.mem = ⟨a.idx, a.term, a.mem, []⟩ := by unfold resetP; rw [if_neg ht]
            rw [hP]
            exact ⟨rfl, by show a.idx + 0 ≤ _; omega, by show 0 ≤ _; omega⟩
        · exact same

set_option maxHeartbeats 4000000 in
theorem plays_loop {n lim : Nat} {H0 : Heap} {va : AVal} {l : List Act} {bL bG at_ of_ : Nat} (hA : As H0 va l) (hok : ∀ a ∈ l, a.ok H0) (hgr : ∀ a ∈ l, a.es.length ≤ 40 ∧ a.idx ≤ 4611686018427387904) (hll : l.length ≤ 60) (hlim : lim ≤ H0.next) (hG : H0.next ≤ bG) (hat : at_ < 18446744073709551616) :
    ∀ (m k : Nat) (H : Heap) (L : Lg) (v w : AVal), LogAt H bL v L → H.cells bG = some (refC L w) → Es H w L.es → L.Fits → Keeps2 H0 H → (∀ c, foot bL v c → H0.next ≤ c ∧ c ≠ bG) → (∀ c, slBlk1 w = some c → ¬ foot bL v c ∧ c ≠ bG) → L.idx + L.es.length ≤ 4611686018427387904 + 100 + k → L.es.length ≤ 40 + 40 * k → l.length < m + k → k ≤ l.length →
      F7_l0 (Ahs.runT ap (n + 100000)) lim (n + 100000) (fun r H' => r = .bool true) m va (.int .u64 (at_ : Int)) (.int .u64 (of_ : Int)) (ptr bL) (ptr bG) (.int .i64 (k : Int)) H
  | 0, k, H, L, v, w, _, _, _, _, _, _, _, _, _, hm, hk => by exfalso; omega
  | m + 1, k, H, L, v, w, hL, cG, hw, hf, kE, hft, hwf, hb, hlen, hm, hk => by
    show F7_s0 _ _ _ _ (F7_l0 _ _ _ _ m) _ _ _ _ _ _ H
    unfold F7_s0
    have nE := kE.next
    have bGlt := Heap.cells_lt cG
    have A0 := hA.keep kE
    have tt : ∀ xs : List Ent, decide (xs = xs) = true := fun xs => dT rfl
    have bbn : ∀ b : Bool, eqvO true .bool (.bool b) (.bool b) = some (.bool false) := fun b => by cases b <;> rfl
    by_cases h1 : k < l.length
    · have hd : decide ((k : Int) < (l.length : Int)) = true := dT (by omega)
      have hwr : IntKind.i64.wrap ((k : Int) + 1) = ((k + 1 : Nat) : Int) := i64_succ (by omega)
      have hmem := List.getElem_mem h1
      obtain ⟨ga, gi⟩ := hgr _ hmem
      have ha0 := hok _ hmem
      have ha := ha0.keep kE
      obtain ⟨facF, facS, facL⟩ := act_facts (L := L) (a := l[k]) (B := 4611686018427387904 + 100 + k + 1) hf (by omega) (by omega) ga
      obtain ⟨r1, H1, e1, v', s, hr1, es1, L1, f1, g1, g2⟩ := does30 (n := n) (lim := lim) hL hf (by omega) (by omega) (by omega) (fun c hc => by have := (hft c hc).1; omega) ha (by omega) (by omega) (fun b hbk e => by have := ha0.es.lt1 hbk; have := (hft bL (.inl rfl)).1; omega)
      subst hr1
      have n1 := f1.next
      have kE1 : Keeps2 H0 H1 := Fram.keeps kE f1 (fun c hc e => by have := (hft c e).1; omega)
      have A1 := hA.keep kE1
      have cG1 : H1.cells bG = some (refC L w) := f1.cells cG (fun e => (hft bG e).2 rfl)
      have hw1 : Es H1 w L.es := hw.frame1 f1 (fun b hbk => (hwf b hbk).1)
      obtain ⟨r2, H2, e2, w', s', hr2, ew2, es2, k2, g3, g4⟩ := said31 (n := n) (lim := H1.next) hw1 hf (by omega) (by omega) (Nat.le_refl _) (ha0.keep kE1) (by omega) (by omega)
      subst hr2
      have n2 := k2.next
      have hone := (sl_one ew2).1
      have st1 : astore lim (H2.push (.cells z1)) 4 (ptr H2.next) (ref (actP L l[k]) w') = some (H2.push (.cells (refC (actP L l[k]) w'))) := astore_new (by omega) rfl rfl (refC_one _ hone)
      generalize hH3 : H2.push (.cells (refC (actP L l[k]) w')) = H3 at st1
      have k3 : Keeps2 H2 H3 := by rw [← hH3]; exact .push _ _
      have c3 : H3.cells H2.next = some (refC (actP L l[k]) w') := by rw [← hH3]; exact cells_push_new _ _
      have n3 : H3.next = H2.next + 1 := by rw [← hH3, Heap.next_push]
      have k13 := k2.trans k3
      have st2 : astore lim H3 4 (ptr bG) (ref (actP L l[k]) w') = some (H3.set bG (.cells (refC (actP L l[k]) w'))) := stC (k13.cells cG1) rfl (by omega) hone
      have f4 : Fram (fun c => c = bG) H3 (H3.set bG (.cells (refC (actP L l[k]) w'))) := Fram.set rfl
      have c4 : (H3.set bG (.cells (refC (actP L l[k]) w'))).cells bG = some (refC (actP L l[k]) w') := cells_set_same (by omega)
      generalize hH4 : H3.set bG (.cells (refC (actP L l[k]) w')) = H4 at st2 f4 c4
      have n4 : H4.next = H3.next := by rw [← hH4, Heap.next_set]
      have es4 : Es H4 s (toldP L l[k]).es := (es1.keep k13).frame1 f4 (fun b hbk e => by have := g2 b (slBlk1_le hbk); omega)
      have es4' : Es H4 s' (toldP L l[k]).es := (es2.keep k3).frame1 f4 (fun b hbk e => by have := g4 b (slBlk1_le hbk); omega)
      have hft' : ∀ c, foot bL v' c → H0.next ≤ c ∧ c ≠ bG := by
        rintro c (rfl | hc)
        · exact hft c (.inl rfl)
        · rcases g1 c hc with hc | hc
          · exact hft c (.inr hc)
          · exact ⟨by omega, by omega⟩
      have hwf' : ∀ c, slBlk1 w' = some c → ¬ foot bL v' c ∧ c ≠ bG := by
        intro c hc
        rcases g3 with g3 | g3
        · subst g3
          have hlt := hw.lt1 hc
          refine ⟨?_, (hwf c hc).2⟩
          rintro (e | e)
          · exact (hwf c hc).1 (.inl e)
          · rcases g1 c e with e | e
            · exact (hwf c hc).1 (.inr e)
            · omega
        · have := g3 c (slBlk1_le hc)
          exact ⟨fun e => by have := L1.lt c e; omega, by omega⟩
      have L4 : LogAt H4 bL v' (actP L l[k]) := (L1.keep k13).frame f4 (fun c hc => (hft' c hc).2)
      have w4 : Es H4 w' (actP L l[k]).es := (ew2.keep k3).frame1 f4 (fun b hbk => (hwf' b hbk).2)
      have kE4 : Keeps2 H0 H4 := by rw [← hH4]; exact (kE1.trans k13).setNew (by omega) _
      have A4 := hA.keep kE4
      have tlen : (toldP L l[k]).es.length ≤ 1000 := by
        unfold toldP
        split
        · cases l[k].es.head? <;> simp
        · split
          · split
            · have : (freshP L l[k].es).length ≤ l[k].es.length := (List.dropWhile_sublist _).length_le
              show (freshP L l[k].es).length ≤ 1000
              omega
            · simp
          · split <;> simp
      have x21 : Ahs.runT ap (n + 100000) lim (.fn 21) [s, s'] H4 = _ := same21 (n := n + 99999) es4 es4' (by omega) (by omega)
      obtain ⟨_, H5, e5, rfl, k5⟩ := stands32 (n := n) (lim := lim) (i := at_) (t := of_) L4 w4 facF (by omega) (by omega) (by omega) hat
      have n5 := k5.next
      obtain ⟨_, H6, e6, rfl, k6⟩ := stands32 (n := n) (lim := lim) (i := l[k].idx) (t := l[k].term) (L4.keep k5) (w4.keep k5) facF (by omega) (by omega) (by omega) ha0.idx
      have k46 := k5.trans k6
      have A5 := A4.keep k5
      have y1 : Ahs.runT ap (n + 100000) lim (.fn 30) [ptr bL, .agg (encA l[k])] H = _ := e1
      have y2 : Ahs.runT ap (n + 100000) H1.next (.fn 31) [ref L w, .agg (encA l[k])] H1 = _ := e2
      have y5 : Ahs.runT ap (n + 100000) lim (.fn 32) [ptr bL, ref (actP L l[k]) w', .int .u64 (at_ : Int), .int .u64 (of_ : Int)] H4 = _ := e5
      have y6 : Ahs.runT ap (n + 100000) lim (.fn 32) [ptr bL, ref (actP L l[k]) w', .int .u64 (l[k].idx : Int), .int .u64 (l[k].term : Int)] H5 = _ := e6
      have c5 := k5.cells c4
      (repeat (first | (with_reducible apply bindP_intro; (focus (first | with_reducible rfl | (simp only [walkR, get0, getS, Nat.zero_add, Nat.add_zero, Bool.not_true, Bool.not_false, decide_true, decide_false, reduceIte, and_self, Bool.false_eq_true, A0.len, hd, A0.addr h1, A0.load h1, y1, ldC cG1, A1.addr h1, A1.load h1, y2, st1, ldC c3, st2, bbn, neq_self, x21, tt, ldC c4, y5, ldC c5, A5.addr h1, A5.faddr h1, A5.idx h1, A5.term h1, y6, hwr] <;> with_reducible rfl)))) | (with_reducible apply bind2_intro; (focus (first | with_reducible rfl | (simp only [walkR, get0, getS, Nat.zero_add, Nat.add_zero, Bool.not_true, Bool.not_false, decide_true, decide_false, reduceIte, and_self, Bool.false_eq_true, A0.len, hd, A0.addr h1, A0.load h1, y1, ldC cG1, A1.addr h1, A1.load h1, y2, st1, ldC c3, st2, bbn, neq_self, x21, tt, ldC c4, y5, ldC c5, A5.addr h1, A5.faddr h1, A5.idx h1, A5.term h1, y6, hwr] <;> with_reducible rfl)))) | with_reducible apply cond_t | with_reducible apply cond_f))
      exact plays_loop hA hok hgr hll hlim hG hat m (k + 1) H6 (actP L l[k]) v' w' (L4.keep k46) (k46.cells c4) (w4.keep k46) facF (kE4.trans k46) hft' hwf' (by omega) (by omega) (by omega) (by omega)
    · have hd : decide ((k : Int) < (l.length : Int)) = false := dF (by omega)
      (repeat (first | (with_reducible apply bindP_intro; (focus (first | with_reducible rfl | (simp only [walkR, get0, getS, Nat.zero_add, Nat.add_zero, Bool.not_true, Bool.not_false, decide_true, decide_false, reduceIte, and_self, Bool.false_eq_true, A0.len, hd] <;> with_reducible rfl)))) | (with_reducible apply bind2_intro; (focus (first | with_reducible rfl | (simp only [walkR, get0, getS, Nat.zero_add, Nat.add_zero, Bool.not_true, Bool.not_false, decide_true, decide_false, reduceIte, and_self, Bool.false_eq_true, A0.len, hd] <;> with_reducible rfl)))) | with_reducible apply cond_t | with_reducible apply cond_f))
      unfold F7_j0
      obtain ⟨_, H5, e5, rfl, k5⟩ := stands32 (n := n) (lim := lim) (i := at_) (t := of_) hL hw hf (by omega) (by omega) (by omega) hat
      have y5 : Ahs.runT ap (n + 100000) lim (.fn 32) [ptr bL, ref L w, .int .u64 (at_ : Int), .int .u64 (of_ : Int)] H = _ := e5
      (repeat (first | (with_reducible apply bindP_intro; (focus (first | with_reducible rfl | (simp only [walkR, get0, getS, Nat.zero_add, Nat.add_zero, Bool.not_true, Bool.not_false, decide_true, decide_false, reduceIte, and_self, Bool.false_eq_true, ldC cG, y5, b16] <;> with_reducible rfl)))) | (with_reducible apply bind2_intro; (focus (first | with_reducible rfl | (simp only [walkR, get0, getS, Nat.zero_add, Nat.add_zero, Bool.not_true, Bool.not_false, decide_true, decide_false, reduceIte, and_self, Bool.false_eq_true, ldC cG, y5, b16] <;> with_reducible rfl)))) | with_reducible apply cond_t | with_reducible apply cond_f))
      rfl

theorem build_ref4 (i t m : Int) (v : AVal) (hc : v.cells = [v]) : buildO z1 [(0, 1, .int .u64 i), (1, 1, .int .u64 t), (2, 1, .int .u8 m), (3, 1, v)] = some (.agg [.int .u64 i, .int .u64 t, .int .u8 m, v]) := by
  simp only [buildO, fillV, hc]
  rfl

set_option maxHeartbeats 4000000 in
theorem plays {n lim : Nat} {H : Heap} {wl va : AVal} {es : List Ent} {l : List Act} (he : Es H wl es) (oke : ∀ e ∈ es, e.ok) (hA : As H va l) (hok : ∀ a ∈ l, a.ok H) (hlim : lim ≤ H.next) {i t mb at_ of_ : Nat} (hi0 : i < 18446744073709551616) (hat : at_ < 18446744073709551616) :
    ∃ r H', Ahs.runT ap (n + 100001) lim (.fn 7) [.int .u64 (i : Int), .int .u64 (t : Int), .int .u8 (mb : Int), wl, va, .int .u64 (at_ : Int), .int .u64 (of_ : Int)] H = some (r, H') ∧ r = .bool true := by
  refine F7_run (n := n + 100000) a7 ?_
  unfold F7
  have gA : Ahs.runT ap (n + 100000) lim (.fn 28) [va] H = _ := great28 (n := n + 99899) (lim := lim) hA hok
  have gl : Ahs.runT ap (n + 100000) lim (.fn 15) [wl] H = _ := great15 (n := n + 99999) (lim := lim) he (by omega)
  cases hg1 : greatAs l with
  | true =>
    (repeat (first | (with_reducible apply bindP_intro; (focus (first | with_reducible rfl | (simp only [walkR, get0, getS, Nat.zero_add, Nat.add_zero, Bool.not_true, Bool.not_false, decide_true, decide_false, reduceIte, and_self, Bool.false_eq_true, gA, hg1, b16] <;> with_reducible rfl)))) | (with_reducible apply bind2_intro; (focus (first | with_reducible rfl | (simp only [walkR, get0, getS, Nat.zero_add, Nat.add_zero, Bool.not_true, Bool.not_false, decide_true, decide_false, reduceIte, and_self, Bool.false_eq_true, gA, hg1, b16] <;> with_reducible rfl)))) | with_reducible apply cond_t | with_reducible apply cond_f))
    rfl
  | false =>
  cases hg2 : greatEs es with
  | true =>
    (repeat (first | (with_reducible apply bindP_intro; (focus (first | with_reducible rfl | (simp only [walkR, get0, getS, Nat.zero_add, Nat.add_zero, Bool.not_true, Bool.not_false, decide_true, decide_false, reduceIte, and_self, Bool.false_eq_true, gA, hg1, gl, hg2, b16] <;> with_reducible rfl)))) | (with_reducible apply bind2_intro; (focus (first | with_reducible rfl | (simp only [walkR, get0, getS, Nat.zero_add, Nat.add_zero, Bool.not_true, Bool.not_false, decide_true, decide_false, reduceIte, and_self, Bool.false_eq_true, gA, hg1, gl, hg2, b16] <;> with_reducible rfl)))) | with_reducible apply cond_t | with_reducible apply cond_f))
    rfl
  | false =>
  by_cases hi : 4611686018427387904 < i
  · have hd : decide ((4611686018427387904 : Int) < (i : Int)) = true := dT (by omega)
    (repeat (first | (with_reducible apply bindP_intro; (focus (first | with_reducible rfl | (simp only [walkR, get0, getS, Nat.zero_add, Nat.add_zero, Bool.not_true, Bool.not_false, decide_true, decide_false, reduceIte, and_self, Bool.false_eq_true, gA, hg1, gl, hg2, hd, b16] <;> with_reducible rfl)))) | (with_reducible apply bind2_intro; (focus (first | with_reducible rfl | (simp only [walkR, get0, getS, Nat.zero_add, Nat.add_zero, Bool.not_true, Bool.not_false, decide_true, decide_false, reduceIte, and_self, Bool.false_eq_true, gA, hg1, gl, hg2, hd, b16] <;> with_reducible rfl)))) | with_reducible apply cond_t | with_reducible apply cond_f))
    rfl
  have hdi : decide ((4611686018427387904 : Int) < (i : Int)) = false := dF (by omega)
  have hel := greatEs_len hg2
  have hll : l.length ≤ 60 ∧ ∀ a ∈ l, a.es.length ≤ 40 ∧ a.idx ≤ 4611686018427387904 := by
    unfold greatAs at hg1
    rw [Bool.or_eq_false_iff] at hg1
    refine ⟨by have := of_decide_eq_false hg1.1; omega, fun a ha => ?_⟩
    have := List.any_eq_false.1 hg1.2 a ha
    unfold greatA at this
    simp only [Bool.or_eq_true, decide_eq_true_eq, not_or, Bool.not_eq_true] at this
    exact ⟨greatEs_len this.1, by omega⟩
  have hone := sl_one he
  have hf1 : fillV [(.sl none 0 (.ex 0))] [(0, 1, wl)] = some [wl] := by
    simp only [fillV, hone.2]; rfl
  generalize hH1 : H.push (.cells [wl]) = H1
  have k1 : Keeps2 H H1 := by rw [← hH1]; exact .push _ _
  have n1 : H1.next = H.next + 1 := by rw [← hH1, Heap.next_push]
  have hs1 : Sl H1 1 (.sl (some (H.next, 0)) 1 (.ex 1)) [[wl]] := ⟨.inr ⟨H.next, 0, .ex 1, [wl], rfl, Nat.le_refl 1, by rw [← hH1]; exact cells_push_new _ _, Nat.le_refl 1, rfl⟩, fun x hx => by simp at hx; subst hx; rfl⟩
  (repeat (first | (with_reducible apply bindP_intro; (focus (first | with_reducible rfl | (simp only [walkR, get0, getS, Nat.zero_add, Nat.add_zero, Bool.not_true, Bool.not_false, decide_true, decide_false, reduceIte, and_self, Bool.false_eq_true, gA, hg1, gl, hg2, hdi, hf1, hH1] <;> with_reducible rfl)))) | (with_reducible apply bind2_intro; (focus (first | with_reducible rfl | (simp only [walkR, get0, getS, Nat.zero_add, Nat.add_zero, Bool.not_true, Bool.not_false, decide_true, decide_false, reduceIte, and_self, Bool.false_eq_true, gA, hg1, gl, hg2, hdi, hf1, hH1] <;> with_reducible rfl)))) | with_reducible apply cond_t | with_reducible apply cond_f))
  refine bind2_of (new1 (n := n + 99993) (lim := lim) (i := i) (t := t) (m := mb) (by omega) hs1 (he.keep k1) oke (by omega) (by omega) hi0) ?_
  rintro r H2 ⟨hr, k2⟩
  have n2 := k2.next
  have k02 := k1.trans k2
  have x29 : Ahs.runT ap (n + 100000) lim (.fn 29) [.int .u64 (i : Int), .int .u64 (t : Int), wl] H2 = _ := ref29 (n := n + 99999) (lim := lim) (t := t) (he.keep k02) oke (by omega) (by omega) hi0
  have bbn : ∀ b : Bool, eqvO true .bool (.bool b) (.bool b) = some (.bool false) := fun b => by cases b <;> rfl
  have z00 : ((0 : Int) == 0) = true := rfl
  have z10 : ((1 : Int) == 0) = false := rfl
  have z11 : ((1 : Int) == 1) = true := rfl
  have y00 : ((0 : Int) != 0) = false := rfl
  have y10 : ((1 : Int) != 0) = true := rfl
  have pn : eqvO false .ptr (.ptr none) (.ptr none) = some (.bool true) := rfl
  cases hfit : fitP i t es with
  | false =>
    rw [hfit] at hr
    simp only [Bool.false_eq_true, if_false] at hr
    subst hr
    (repeat (first | (with_reducible apply bindP_intro; (focus (first | with_reducible rfl | (simp only [walkR, get0, getS, Nat.zero_add, Nat.add_zero, Bool.not_true, Bool.not_false, decide_true, decide_false, reduceIte, and_self, Bool.false_eq_true, z10, x29, hfit, bbn, y10, z11, pn, b16] <;> with_reducible rfl)))) | (with_reducible apply bind2_intro; (focus (first | with_reducible rfl | (simp only [walkR, get0, getS, Nat.zero_add, Nat.add_zero, Bool.not_true, Bool.not_false, decide_true, decide_false, reduceIte, and_self, Bool.false_eq_true, z10, x29, hfit, bbn, y10, z11, pn, b16] <;> with_reducible rfl)))) | with_reducible apply cond_t | with_reducible apply cond_f))
    rfl
  | true =>
    rw [hfit] at hr
    simp only [if_true] at hr
    obtain ⟨bL, v, rfl, hL, hbL, hv⟩ := hr
    have st1 : astore lim (H2.push (.cells z1)) 4 (ptr H2.next) (ref ⟨i, t, mb, es⟩ wl) = some (H2.push (.cells (refC ⟨i, t, mb, es⟩ wl))) := astore_new (by omega) rfl rfl (refC_one _ hone.1)
    have k3 : Keeps2 H2 (H2.push (.cells (refC ⟨i, t, mb, es⟩ wl))) := .push _ _
    have c3 : (H2.push (.cells (refC ⟨i, t, mb, es⟩ wl))).cells H2.next = some (refC ⟨i, t, mb, es⟩ wl) := cells_push_new _ _
    have hbu := build_ref4 i t mb wl hone.2
    (repeat (first | (with_reducible apply bindP_intro; (focus (first | with_reducible rfl | (simp only [walkR, get0, getS, Nat.zero_add, Nat.add_zero, Bool.not_true, Bool.not_false, decide_true, decide_false, reduceIte, and_self, Bool.false_eq_true, z00, x29, hfit, bbn, y00, hbu, st1] <;> with_reducible rfl)))) | (with_reducible apply bind2_intro; (focus (first | with_reducible rfl | (simp only [walkR, get0, getS, Nat.zero_add, Nat.add_zero, Bool.not_true, Bool.not_false, decide_true, decide_false, reduceIte, and_self, Bool.false_eq_true, z00, x29, hfit, bbn, y00, hbu, st1] <;> with_reducible rfl)))) | with_reducible apply cond_t | with_reducible apply cond_f))
    have hlt := hL.lt
    refine plays_loop (n := n) hA hok hll.2 hll.1 hlim (by omega) hat (n + 100000) 0 _ ⟨i, t, mb, es⟩ v wl (hL.keep k3) c3 (he.keep (k02.trans k3)) hfit (k02.trans k3) ?_ ?_ (by show i + es.length ≤ _; omega) (by show es.length ≤ _; omega) (by omega) (by omega)
    · intro c hc
      have := hlt c hc
      rcases hc with rfl | hc
      · exact ⟨by omega, by omega⟩
      · have := hv c hc; exact ⟨by omega, by omega⟩
    · intro c hc
      have := he.lt1 hc
      refine ⟨?_, by omega⟩
      rintro (e | e)
      · omega
      · have := hv c e; omega

end Go.Proofs.Ytpefhojmfcenfaa.logs

set_option maxRecDepth 100000
namespace Go.Proofs.Ytpefhojmfcenfaa.logs
open Go.Ahs

def actTy : Ty := .int .u8 (.int .u64 (.int .u64 (.int .u8 (.slice entTy .nil))))

theorem wf_act {H : Heap} {x : List AVal} (h : Wf H actTy x) : ∃ a : Act, x = encA a ∧ a.ok H := by
  obtain ⟨d, _, rfl, hd, i, _, rfl, hi, t, _, rfl, ht, m, _, rfl, hm, v, _, rfl, _, hv, rfl⟩ := h
  obtain ⟨d, rfl, _⟩ := wfU8 hd
  obtain ⟨i, rfl, hi'⟩ := wfU64 hi
  obtain ⟨t, rfl, _⟩ := wfU64 ht
  obtain ⟨m, rfl, _⟩ := wfU8 hm
  obtain ⟨es, h1, _, h2⟩ := wf_ents hv
  exact ⟨⟨d, i, t, m, v, es⟩, rfl, h1, h2, hi'⟩

theorem wf_acts {H : Heap} {v : AVal} (h : ∃ xs, Sl H actTy.size v xs ∧ xs.length ≤ maxLen ∧ ∀ x ∈ xs, Wf H actTy x) : ∃ l, As H v l ∧ ∀ a ∈ l, a.ok H := by
  obtain ⟨xs, h1, _, h3⟩ := h
  have key : ∀ ys : List (List AVal), (∀ x ∈ ys, Wf H actTy x) → ∃ l : List Act, ys = l.map encA ∧ ∀ a ∈ l, a.ok H := by
    intro ys
    induction ys with
    | nil => intro _; exact ⟨[], rfl, fun _ h => by simp at h⟩
    | cons y ys ih =>
      intro hy
      obtain ⟨a, ha, hok⟩ := wf_act (hy y (by simp))
      obtain ⟨l, hl, hoks⟩ := ih (fun x hx => hy x (by simp [hx]))
      exact ⟨a :: l, by rw [ha, hl]; rfl, fun a' ha' => by
        rcases List.mem_cons.1 ha' with rfl | ha'
        · exact hok
        · exact hoks a' ha'⟩
  obtain ⟨l, rfl, hok⟩ := key xs h3
  exact ⟨l, h1, hok⟩

theorem arg_acts {H : Heap} {a : AVal} (h : if false = true then ∃ cs, a = .agg cs ∧ Wf H (.slice actTy .nil) cs else Wf H (.slice actTy .nil) [a]) : ∃ l, As H a l ∧ ∀ x ∈ l, x.ok H := by
  obtain ⟨v, _, h1, _, h2, _⟩ := h
  simp at h1
  rw [h1.1]
  exact wf_acts h2

theorem plays_walk (H : Heap) (vs : List AVal) (h : WfArgs H [(false, .int .u64 .nil), (false, .int .u64 .nil), (false, .int .u8 .nil), (false, .slice entTy .nil), (false, .slice actTy .nil), (false, .int .u64 .nil), (false, .int .u64 .nil)] vs) :
    ∃ n, isTrue (run ap n H.next 7 vs H) = true := by
  obtain ⟨a0, _, rfl, h0, a1, _, rfl, h1, a2, _, rfl, h2, a3, _, rfl, h3, a4, _, rfl, h4, a5, _, rfl, h5, a6, _, rfl, h6, rfl⟩ := h
  obtain ⟨i, rfl, hi⟩ := arg_u64 h0
  obtain ⟨t, rfl, ht⟩ := arg_u64 h1
  obtain ⟨mb, rfl, _⟩ := arg_u8 h2
  obtain ⟨l, hl, _, okl⟩ := arg_ents h3
  obtain ⟨ws, hA, hok⟩ := arg_acts h4
  obtain ⟨p, rfl, hp⟩ := arg_u64 h5
  obtain ⟨q, rfl, hq⟩ := arg_u64 h6
  exact isTrue_of (n := 0) (k := 100001) (plays hl okl hA hok (Nat.le_refl _) hi hp)
end Go.Proofs.Ytpefhojmfcenfaa.logs
