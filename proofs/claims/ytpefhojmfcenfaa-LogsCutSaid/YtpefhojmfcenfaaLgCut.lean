/- LogsCut on the abstract machine. -/
import Derived.Test.YtpefhojmfcenfaaLgOps7
import Derived.Test.YtpefhojmfcenfaaLgAgree
set_option maxRecDepth 100000
set_option linter.unusedVariables false
set_option linter.unusedSimpArgs false
namespace Go.Proofs.Ytpefhojmfcenfaa.logs
open Go.Ahs

theorem cut_end {n lim : Nat} {H : Heap} {a b c d e f : Nat} (h1 : a = c) (h2 : b = d) (h3 : e = f) :
    F6_j0 (Ahs.runT ap (n + 1)) lim (n + 1) (fun r H' => r = .bool true) (.int .u64 (a : Int)) (.int .u64 (b : Int)) (.int .u64 (c : Int)) (.int .u64 (d : Int)) (.int .u8 (e : Int)) (.int .u8 (f : Int)) H := by
  subst h1 h2 h3
  unfold F6_j0
  have q : ∀ x : Nat, ((x : Int) == (x : Int)) = true := fun x => by simp
  (repeat (first | (with_reducible apply bindP_intro; (focus (first | with_reducible rfl | (simp only [walkR, get0, getS, Nat.zero_add, Nat.add_zero, Bool.not_true, Bool.not_false, decide_true, decide_false, reduceIte, and_self, Bool.false_eq_true, q, b16] <;> with_reducible rfl)))) | (with_reducible apply bind2_intro; (focus (first | with_reducible rfl | (simp only [walkR, get0, getS, Nat.zero_add, Nat.add_zero, Bool.not_true, Bool.not_false, decide_true, decide_false, reduceIte, and_self, Bool.false_eq_true, q, b16] <;> with_reducible rfl)))) | with_reducible apply cond_t | with_reducible apply cond_f))
  rfl

/-- Behind a cut the terms and the members are the same. -/
theorem cut_loop {n lim : Nat} {ba bw : Nat} {va vw : AVal} {A W : Lg} {t25 t26 t27 t28 t30 : AVal} {z : Nat} (hbA : A.idx + A.es.length < 9223372036854775808) (hbW : W.idx + W.es.length < 9223372036854775808) (hA1 : A.es.length ≤ 1000) (hW1 : W.es.length ≤ 1000) (hz : z < 9223372036854775808) (hn : 1100 ≤ n)
    (hK : ∀ H, F6_j0 (Ahs.runT ap (n + 5)) lim (n + 5) (fun r H' => r = .bool true) (.int .u64 (z : Int)) t25 t26 t27 t28 t30 H) :
    ∀ (m i : Nat) (H : Heap), LogAt H ba va A → LogAt H bw vw W → lim ≤ H.next → z + 1 < m + i → i ≤ z + 1 → (∀ j, i ≤ j → j ≤ z → (∃ t, termP A j = some t ∧ termP W j = some t) ∧ (upToP A j).1 = (upToP W j).1) →
      F6_l0 (Ahs.runT ap (n + 5)) lim (n + 5) (fun r H' => r = .bool true) m (ptr ba) (ptr bw) (.int .u64 (z : Int)) t25 t26 t27 t28 t30 (.int .u64 (i : Int)) H
  | 0, i, H, _, _, _, hm, hi, _ => by exfalso; omega
  | m + 1, i, H, hA, hW, hl, hm, hi, hs => by
    show F6_s0 _ _ _ _ (F6_l0 _ _ _ _ m) _ _ _ _ _ _ _ _ _ H
    unfold F6_s0
    by_cases h1 : i ≤ z
    · have hd : decide ((i : Int) ≤ (z : Int)) = true := dT (by omega)
      have hw : IntKind.u64.wrap ((i : Int) + 1) = ((i + 1 : Nat) : Int) := u64_succ (by omega)
      obtain ⟨⟨t, ht1, ht2⟩, hu⟩ := hs i (Nat.le_refl _) h1
      have hq : ((t : Int) != (t : Int)) = false := by simp
      have x1 : Ahs.runT ap (n + 5) lim (.fn 18) [ptr ba, .int .u64 (i : Int)] H = _ := log18 (n := n + 2) hA hbA (show i < 18446744073709551616 by omega)
      have x2 : Ahs.runT ap (n + 5) lim (.fn 18) [ptr bw, .int .u64 (i : Int)] H = _ := log18 (n := n + 2) hW hbW (show i < 18446744073709551616 by omega)
      obtain ⟨_, H1, y1, rfl, k1⟩ := log27 (n := n + 1) (i := i) hA hl (by omega) (by omega)
      obtain ⟨_, H2, y2, rfl, k2⟩ := log27 (n := n + 1) (lim := lim) (i := i) (hW.keep k1) (by have := k1.next; omega) (by omega) (by omega)
      have y1' : Ahs.runT ap (n + 5) lim (.fn 27) [ptr ba, .int .u64 (i : Int)] H = _ := y1
      have y2' : Ahs.runT ap (n + 5) lim (.fn 27) [ptr bw, .int .u64 (i : Int)] H1 = _ := y2
      have hq2 : (((upToP A i).1 : Int) != ((upToP W i).1 : Int)) = false := by rw [hu]; simp
      have kk := k1.trans k2
      (repeat (first | (with_reducible apply bindP_intro; (focus (first | with_reducible rfl | (simp only [walkR, get0, getS, Nat.zero_add, Nat.add_zero, Bool.not_true, Bool.not_false, decide_true, decide_false, reduceIte, and_self, Bool.false_eq_true, hd, x1, x2, ht1, ht2, optT, hq, y1', y2', hq2, hw] <;> with_reducible rfl)))) | (with_reducible apply bind2_intro; (focus (first | with_reducible rfl | (simp only [walkR, get0, getS, Nat.zero_add, Nat.add_zero, Bool.not_true, Bool.not_false, decide_true, decide_false, reduceIte, and_self, Bool.false_eq_true, hd, x1, x2, ht1, ht2, optT, hq, y1', y2', hq2, hw] <;> with_reducible rfl)))) | with_reducible apply cond_t | with_reducible apply cond_f))
      exact cut_loop hbA hbW hA1 hW1 hz hn hK m (i + 1) H2 (hA.keep kk) (hW.keep kk) (by have := kk.next; omega) (by omega) (by omega) (fun j h2 h3 => hs j (by omega) h3)
    · have hd : decide ((i : Int) ≤ (z : Int)) = false := dF (by omega)
      (repeat (first | (with_reducible apply bindP_intro; (focus (first | with_reducible rfl | (simp only [walkR, get0, getS, Nat.zero_add, Nat.add_zero, Bool.not_true, Bool.not_false, decide_true, decide_false, reduceIte, and_self, Bool.false_eq_true, hd] <;> with_reducible rfl)))) | (with_reducible apply bind2_intro; (focus (first | with_reducible rfl | (simp only [walkR, get0, getS, Nat.zero_add, Nat.add_zero, Bool.not_true, Bool.not_false, decide_true, decide_false, reduceIte, and_self, Bool.false_eq_true, hd] <;> with_reducible rfl)))) | with_reducible apply cond_t | with_reducible apply cond_f))
      exact hK H

set_option maxHeartbeats 4000000 in
theorem cuts {n lim : Nat} {H : Heap} {wl wr : AVal} {l : List Ent} {rs : List Nat} (hl : Es H wl l) (hr : Bs H wr rs) (okl : ∀ e ∈ l, e.ok) (hrl : rs.length ≤ 9223372036854775807)
    (hlim : lim ≤ H.next) {i t mb one two : Nat} (hi0 : i < 18446744073709551616) (ht0 : t < 18446744073709551616) (h1b : one < 256) (h2b : two < 256) :
    ∃ r H', Ahs.runT ap (n + 2000) lim (.fn 6) [.int .u64 (i : Int), .int .u64 (t : Int), .int .u8 (mb : Int), wl, wr, .int .u8 (one : Int), .int .u8 (two : Int)] H = some (r, H') ∧ r = .bool true := by
  refine F6_run (n := n + 1999) a6 ?_
  unfold F6
  have gl : Ahs.runT ap (n + 1999) lim (.fn 15) [wl] H = _ := great15 (n := n + 1998) (lim := lim) hl (by omega)
  cases hg1 : greatEs l with
  | true =>
    (repeat (first | (with_reducible apply bindP_intro; (focus (first | with_reducible rfl | (simp only [walkR, get0, getS, Nat.zero_add, Nat.add_zero, Bool.not_true, Bool.not_false, decide_true, decide_false, reduceIte, and_self, Bool.false_eq_true, gl, hg1, b16] <;> with_reducible rfl)))) | (with_reducible apply bind2_intro; (focus (first | with_reducible rfl | (simp only [walkR, get0, getS, Nat.zero_add, Nat.add_zero, Bool.not_true, Bool.not_false, decide_true, decide_false, reduceIte, and_self, Bool.false_eq_true, gl, hg1, b16] <;> with_reducible rfl)))) | with_reducible apply cond_t | with_reducible apply cond_f))
    rfl
  | false =>
  by_cases hi : 1152921504606846976 < i
  · have hd : decide ((1152921504606846976 : Int) < (i : Int)) = true := dT (by omega)
    (repeat (first | (with_reducible apply bindP_intro; (focus (first | with_reducible rfl | (simp only [walkR, get0, getS, Nat.zero_add, Nat.add_zero, Bool.not_true, Bool.not_false, decide_true, decide_false, reduceIte, and_self, Bool.false_eq_true, gl, hg1, hd, b16] <;> with_reducible rfl)))) | (with_reducible apply bind2_intro; (focus (first | with_reducible rfl | (simp only [walkR, get0, getS, Nat.zero_add, Nat.add_zero, Bool.not_true, Bool.not_false, decide_true, decide_false, reduceIte, and_self, Bool.false_eq_true, gl, hg1, hd, b16] <;> with_reducible rfl)))) | with_reducible apply cond_t | with_reducible apply cond_f))
    rfl
  have hdi : decide ((1152921504606846976 : Int) < (i : Int)) = false := dF (by omega)
  by_cases ht : 1152921504606846976 < t
  · have hd : decide ((1152921504606846976 : Int) < (t : Int)) = true := dT (by omega)
    (repeat (first | (with_reducible apply bindP_intro; (focus (first | with_reducible rfl | (simp only [walkR, get0, getS, Nat.zero_add, Nat.add_zero, Bool.not_true, Bool.not_false, decide_true, decide_false, reduceIte, and_self, Bool.false_eq_true, gl, hg1, hdi, hd, b16] <;> with_reducible rfl)))) | (with_reducible apply bind2_intro; (focus (first | with_reducible rfl | (simp only [walkR, get0, getS, Nat.zero_add, Nat.add_zero, Bool.not_true, Bool.not_false, decide_true, decide_false, reduceIte, and_self, Bool.false_eq_true, gl, hg1, hdi, hd, b16] <;> with_reducible rfl)))) | with_reducible apply cond_t | with_reducible apply cond_f))
    rfl
  have hdt : decide ((1152921504606846976 : Int) < (t : Int)) = false := dF (by omega)
  have hll := greatEs_len hg1
  have hrm : room = 140737488355328 := rfl
  (repeat (first | (with_reducible apply bindP_intro; (focus (first | with_reducible rfl | (simp only [walkR, get0, getS, Nat.zero_add, Nat.add_zero, Bool.not_true, Bool.not_false, decide_true, decide_false, reduceIte, and_self, Bool.false_eq_true, gl, hg1, hdi, hdt] <;> with_reducible rfl)))) | (with_reducible apply bind2_intro; (focus (first | with_reducible rfl | (simp only [walkR, get0, getS, Nat.zero_add, Nat.add_zero, Bool.not_true, Bool.not_false, decide_true, decide_false, reduceIte, and_self, Bool.false_eq_true, gl, hg1, hdi, hdt] <;> with_reducible rfl)))) | with_reducible apply cond_t | with_reducible apply cond_f))
  have gr : ∀ {H0 : Heap}, Keeps2 H H0 → ∃ b v H', Ahs.runT ap (n + 1999) lim (.fn 17) [.int .u64 (i : Int), .int .u64 (t : Int), .int .u8 (mb : Int), wl, wr] H0 = some (ptr b, H') ∧ LogAt H' b v (grownP rs 0 t ⟨i, t, mb, []⟩ l) ∧ H0.next ≤ b ∧ (∀ c, slBlk v = some c → H0.next ≤ c) ∧ Keeps2 H0 H' := by
    intro H0 k0
    obtain ⟨r, H', q1, b, v, rfl, q2, q3, q4, q5⟩ := grown17 (n := n + 1994) (m := mb) (hl.keep k0) (hr.keep k0) (by omega) hrl (Nat.le_trans hlim k0.next) (by omega) (by omega : i ≤ 1152921504606846976) (by omega : t ≤ 1152921504606846976)
    exact ⟨b, v, H', q1, q2, q3, q4, q5⟩
  have fL : (grownP rs 0 t ⟨i, t, mb, []⟩ l).Fits := grownP_fits rs l 0 t _ rfl
  obtain ⟨iL, _, _, nL⟩ := grownP_idx rs l 0 t ⟨i, t, mb, []⟩
  generalize grownP rs 0 t ⟨i, t, mb, []⟩ l = L at *
  have iL' : L.idx = i := iL
  have nL' : L.es.length = l.length := by rw [nL]; simp
  obtain ⟨ba, va, H1, g1, hA, hba, hva, k1⟩ := gr (.refl H)
  obtain ⟨bb, vb, H2, g2, hB, hbb, hvb, k2⟩ := gr k1
  have n1 := k1.next
  have n2 := k2.next
  have hA2 := hA.keep k2
  -- the places
  generalize hq1 : one % (l.length + 1) = q1
  have hq1l : q1 ≤ l.length := by
    have h := Nat.mod_lt one (show l.length + 1 > 0 by omega)
    rw [hq1] at h; omega
  generalize hq2 : two % (l.length - q1 + 1) = q2
  have hq2l : q1 + q2 ≤ l.length := by
    have h := Nat.mod_lt two (show l.length - q1 + 1 > 0 by omega)
    rw [hq2] at h; omega
  have w1 : IntKind.u64.wrap (one : Int) = (one : Int) := wrap_u64 (by omega) (by omega)
  have w2 : IntKind.u64.wrap (two : Int) = (two : Int) := wrap_u64 (by omega) (by omega)
  have wll : IntKind.u64.wrap (l.length : Int) = (l.length : Int) := wrap_u64 (by omega) (by omega)
  have wl1 : IntKind.u64.wrap ((l.length : Int) + 1) = ((l.length + 1 : Nat) : Int) := u64_succ (by omega)
  have hrem1 := rem_nat .u64 one (l.length + 1) (by omega)
  have hrem2 := rem_nat .u64 two (l.length - q1 + 1) (by omega)
  have wp : IntKind.u64.wrap ((i : Int) + (q1 : Int)) = ((i + q1 : Nat) : Int) := by rw [wrap_u64 (by omega) (by omega)]; omega
  have we : IntKind.u64.wrap ((i : Int) + (l.length : Int)) = ((i + l.length : Nat) : Int) := by rw [wrap_u64 (by omega) (by omega)]; omega
  have ws1 : IntKind.u64.wrap (((i + l.length : Nat) : Int) - ((i + q1 : Nat) : Int)) = ((l.length - q1 : Nat) : Int) := by rw [wrap_u64 (by omega) (by omega)]; omega
  have ws2 : IntKind.u64.wrap (((l.length - q1 : Nat) : Int) + 1) = ((l.length - q1 + 1 : Nat) : Int) := u64_succ (by omega)
  have wq : IntKind.u64.wrap (((i + q1 : Nat) : Int) + (q2 : Int)) = ((i + q1 + q2 : Nat) : Int) := by rw [wrap_u64 (by omega) (by omega)]; omega
  have hlH := (hl.keep (k1.trans k2)).len
  (repeat (first | (with_reducible apply bindP_intro; (focus (first | with_reducible rfl | (simp only [walkR, get0, getS, Nat.zero_add, Nat.add_zero, Bool.not_true, Bool.not_false, decide_true, decide_false, reduceIte, and_self, Bool.false_eq_true, g1, g2, ptr_ne, w1, w2, hlH, hl.len, wll, wl1, hrem1, hq1, wp, we, ws1, ws2, hrem2, hq2, wq] <;> with_reducible rfl)))) | (with_reducible apply bind2_intro; (focus (first | with_reducible rfl | (simp only [walkR, get0, getS, Nat.zero_add, Nat.add_zero, Bool.not_true, Bool.not_false, decide_true, decide_false, reduceIte, and_self, Bool.false_eq_true, g1, g2, ptr_ne, w1, w2, hlH, hl.len, wll, wl1, hrem1, hq1, wp, we, ws1, ws2, hrem2, hq2, wq] <;> with_reducible rfl)))) | with_reducible apply cond_t | with_reducible apply cond_f))
  -- the cuts
  obtain ⟨cp0, cpF, cpi, cpe, cpt, cpT, cpM, cpL⟩ := cut_facts fL (p := i + q1) (by omega) (by omega)
  obtain ⟨cq0, cqF, cqi, cqe, cqt, cqT, cqM, cqL⟩ := cut_facts fL (p := i + q1 + q2) (by omega) (by omega)
  have cpl : (cutP L (i + q1)).es.length = l.length - q1 := by rw [cpe, List.length_drop]; omega
  obtain ⟨cr0, crF, cri, cre, crt, crT, crM, crL⟩ := cut_facts cpF (p := i + q1 + q2) (by rw [cpi]; omega) (by rw [cpi, cpl]; omega)
  obtain ⟨_, H3, x3, v3, rfl, hA3, f3, hv3⟩ := log24 (n := n + 1994) (lim := lim) (i := i + q1) hA2 fL (by omega) (by omega) (by omega) (by omega) (by omega) (by omega)
  have n3 := f3.next
  have hB3 : LogAt H3 bb vb L := hB.frame f3 (fun c hc hfc => by
    have h1 := hA.lt c hfc
    rcases hc with rfl | hc
    · omega
    · have := hvb c hc; omega)
  rw [cp0] at x3
  generalize hLp : cutP L (i + q1) = Lp at *
  obtain ⟨_, H4, x4, v4, rfl, hA4, f4, hv4⟩ := log24 (n := n + 1994) (lim := lim) (i := i + q1 + q2) hA3 cpF (by rw [cpi, cpl]; omega) (by omega) (by omega) (by omega) (by omega) (by omega)
  have n4 := f4.next
  have hB4 : LogAt H4 bb vb L := hB3.frame f4 (fun c hc hfc => by
    rcases hfc with rfl | hfc
    · rcases hc with rfl | hc
      · have := hA.lt _ (.inl rfl); omega
      · have := hA.lt _ (.inl rfl)
        have := hvb _ hc; omega
    · rcases hv3 c hfc with h | h
      · have h1 := hA.lt c (.inr h)
        rcases hc with rfl | hc
        · omega
        · have := hvb c hc; omega
      · have := hB.lt c hc; omega)
  rw [cr0] at x4
  obtain ⟨_, H5, x5, v5, rfl, hB5, f5, hv5⟩ := log24 (n := n + 1994) (lim := lim) (i := i + q1 + q2) hB4 fL (by omega) (by omega) (by omega) (by omega) (by omega) (by omega)
  have n5 := f5.next
  have hA5 : LogAt H5 ba v4 (cutP Lp (i + q1 + q2)) := hA4.frame f5 (fun c hc hfc => by
    rcases hfc with e | hfc
    · rcases hc with e2 | hc
      · have := hA.lt ba (.inl rfl); omega
      · have hbl := hB.lt bb (.inl rfl)
        rcases hv4 _ hc with h | h
        · rcases hv3 _ h with h | h
          · have := hA.lt _ (.inr h); omega
          · omega
        · omega
    · have h1 := hvb c hfc
      have h2 := hB.lt c (.inr hfc)
      rcases hc with rfl | hc
      · have := hA.lt _ (.inl rfl); omega
      · rcases hv4 _ hc with h | h
        · rcases hv3 _ h with h | h
          · have := hA.lt _ (.inr h); omega
          · omega
        · omega)
  rw [cq0] at x5
  have x3' : Ahs.runT ap (n + 1999) lim (.fn 24) [ptr ba, .int .u64 ((i + q1 : Nat) : Int)] H2 = _ := x3
  have x4' : Ahs.runT ap (n + 1999) lim (.fn 24) [ptr ba, .int .u64 ((i + q1 + q2 : Nat) : Int)] H3 = _ := x4
  have x5' : Ahs.runT ap (n + 1999) lim (.fn 24) [ptr bb, .int .u64 ((i + q1 + q2 : Nat) : Int)] H4 = _ := x5
  -- H5 keeps H
  have kH5 : Keeps2 H H5 := by
    have e1 : Keeps2 H H3 := Fram.keeps (k1.trans k2) f3 (fun c hc hfc => by
      rcases hfc with rfl | hfc
      · omega
      · have := hva c hfc; omega)
    have e2 : Keeps2 H H4 := Fram.keeps e1 f4 (fun c hc hfc => by
      rcases hfc with rfl | hfc
      · omega
      · rcases hv3 c hfc with h | h
        · have := hva c h; omega
        · omega)
    exact Fram.keeps e2 f5 (fun c hc hfc => by
      rcases hfc with rfl | hfc
      · omega
      · have := hvb c hfc; omega)
  obtain ⟨bw, vw, H6, g6, hW, hbw, hvw, k6⟩ := gr kH5
  have n6 := k6.next
  have hA6 := hA5.keep k6
  have hB6 := hB5.keep k6
  have hAe : (cutP Lp (i + q1 + q2)).es = L.es.drop (q1 + q2) := by
    have h1 : i + q1 - L.idx + (i + q1 + q2 - (i + q1)) = q1 + q2 := by omega
    rw [cre, cpe, cpi, List.drop_drop, h1]
  have hBe : (cutP L (i + q1 + q2)).es = L.es.drop (q1 + q2) := by
    have h1 : i + q1 + q2 - L.idx = q1 + q2 := by omega
    rw [cqe, h1]
  have hAl : (cutP Lp (i + q1 + q2)).es.length = l.length - (q1 + q2) := by rw [hAe, List.length_drop]; omega
  have hBl : (cutP L (i + q1 + q2)).es.length = l.length - (q1 + q2) := by rw [hBe, List.length_drop]; omega
  have hWt : termP L (i + q1 + q2) = some (cutP Lp (i + q1 + q2)).term := by rw [← cpT _ (by omega)]; exact crt
  generalize hA' : cutP Lp (i + q1 + q2) = A' at *
  generalize hB' : cutP L (i + q1 + q2) = B' at *
  have hF : Ahs.runT ap (n + 1999) lim (.fn 25) [ptr ba] H6 = _ := log25 (n := n + 1997) hA6
  have hT : Ahs.runT ap (n + 1999) lim (.fn 18) [ptr bw, .int .u64 ((i + q1 + q2 : Nat) : Int)] H6 = _ := log18 (n := n + 1996) hW (by omega) (by omega)
  have ne1 : ((A'.idx : Int) != ((i + q1 + q2 : Nat) : Int)) = false := by rw [cri]; simp
  have ne2 : ((A'.term : Int) != (A'.term : Int)) = false := by simp
  have ne0 : ((0 : Int) != 0) = false := rfl
  -- what is told
  obtain ⟨wa, H7, y7, ⟨b7, o7⟩, k7, f7⟩ := log19 (n := n + 1996) (lim := lim) hA6 (by rw [cri, hAl]; omega) (by rw [hAl]; omega) (by omega) (i := 0) (most := 1048576) (by omega) (by omega)
  rw [fromP_all (by omega), hAe] at o7
  have n7 := k7.next
  obtain ⟨wb, H8, y8, ⟨b8, o8⟩, k8, f8⟩ := log19 (n := n + 1996) (lim := lim) (hB6.keep k7) (by rw [cqi, hBl]; omega) (by rw [hBl]; omega) (by omega) (i := 0) (most := 1048576) (by omega) (by omega)
  rw [fromP_all (by omega), hBe] at o8
  have n8 := k8.next
  have sm : (L.es.drop (q1 + q2)).length ≤ 40 := by rw [List.length_drop]; omega
  have s8 : Ahs.runT ap (n + 1999) lim (.fn 21) [wa, wb] H8 = _ := same21 (n := n + 1998) ((o7.sl.keep k8) : Es H8 wa _) (o8.sl : Es H8 wb _) (by omega) (by omega)
  obtain ⟨wc, H9, y9, ⟨b9, o9⟩, k9, f9⟩ := log19 (n := n + 1996) (lim := lim) ((hA6.keep k7).keep k8) (by rw [cri, hAl]; omega) (by rw [hAl]; omega) (by omega) (i := 0) (most := 1048576) (by omega) (by omega)
  rw [fromP_all (by omega), hAe] at o9
  have n9 := k9.next
  obtain ⟨wd, H10, y10, ⟨b10, o10⟩, k10, f10⟩ := log19 (n := n + 1996) (lim := lim) (((hW.keep k7).keep k8).keep k9) (by omega) (by omega) (by omega) (i := i + q1 + q2 + 1) (most := 1048576) (by omega) (by omega)
  have hfr : fromP L (i + q1 + q2 + 1) 1048576 = L.es.drop (q1 + q2) := by
    unfold fromP
    have : max (i + q1 + q2 + 1) (L.idx + 1) - L.idx - 1 = q1 + q2 := by omega
    rw [this, List.take_of_length_le (by omega)]
  rw [hfr] at o10
  have n10 := k10.next
  have s10 : Ahs.runT ap (n + 1999) lim (.fn 21) [wc, wd] H10 = _ := same21 (n := n + 1998) ((o9.sl.keep k10) : Es H10 wc _) (o10.sl : Es H10 wd _) (by omega) (by omega)
  have wq1 : IntKind.u64.wrap (((i + q1 + q2 : Nat) : Int) + 1) = ((i + q1 + q2 + 1 : Nat) : Int) := u64_succ (by omega)
  have tt : decide (L.es.drop (q1 + q2) = L.es.drop (q1 + q2)) = true := dT rfl
  have y7' : Ahs.runT ap (n + 1999) lim (.fn 19) [ptr ba, .int .u64 0, .int .i64 1048576] H6 = _ := y7
  have y8' : Ahs.runT ap (n + 1999) lim (.fn 19) [ptr bb, .int .u64 0, .int .i64 1048576] H7 = _ := y8
  have y9' : Ahs.runT ap (n + 1999) lim (.fn 19) [ptr ba, .int .u64 0, .int .i64 1048576] H8 = _ := y9
  have y10' : Ahs.runT ap (n + 1999) lim (.fn 19) [ptr bw, .int .u64 ((i + q1 + q2 + 1 : Nat) : Int), .int .i64 1048576] H9 = _ := y10
  (repeat (first | (with_reducible apply bindP_intro; (focus (first | with_reducible rfl | (simp only [walkR, get0, getS, Nat.zero_add, Nat.add_zero, Bool.not_true, Bool.not_false, decide_true, decide_false, reduceIte, and_self, Bool.false_eq_true, x3', cast0, ne0, x4', x5', g6, hF, hT, hWt, optT, ne1, ne2, y7', y8', s8, tt, y9', wq1, y10', s10] <;> with_reducible rfl)))) | (with_reducible apply bind2_intro; (focus (first | with_reducible rfl | (simp only [walkR, get0, getS, Nat.zero_add, Nat.add_zero, Bool.not_true, Bool.not_false, decide_true, decide_false, reduceIte, and_self, Bool.false_eq_true, x3', cast0, ne0, x4', x5', g6, hF, hT, hWt, optT, ne1, ne2, y7', y8', s8, tt, y9', wq1, y10', s10] <;> with_reducible rfl)))) | with_reducible apply cond_t | with_reducible apply cond_f))
  have k610 := ((k7.trans k8).trans k9).trans k10
  have hA10 := hA6.keep k610
  have hW10 := hW.keep k610
  refine bind2_of (log22 (n := n + 1996) hA10 (by omega) (by omega)) ?_
  rintro _ H11 ⟨rfl, k11⟩
  have n11 := k11.next
  (repeat (first | (with_reducible apply bindP_intro; (focus (first | with_reducible rfl | (simp only [walkR, get0, getS, Nat.zero_add, Nat.add_zero, Bool.not_true, Bool.not_false, decide_true, decide_false, reduceIte, and_self, Bool.false_eq_true] <;> with_reducible rfl)))) | (with_reducible apply bind2_intro; (focus (first | with_reducible rfl | (simp only [walkR, get0, getS, Nat.zero_add, Nat.add_zero, Bool.not_true, Bool.not_false, decide_true, decide_false, reduceIte, and_self, Bool.false_eq_true] <;> with_reducible rfl)))) | with_reducible apply cond_t | with_reducible apply cond_f))
  refine bind2_of (log22 (n := n + 1996) (hW10.keep k11) (by omega) (by omega)) ?_
  rintro _ H12 ⟨rfl, k12⟩
  have n12 := k12.next
  (repeat (first | (with_reducible apply bindP_intro; (focus (first | with_reducible rfl | (simp only [walkR, get0, getS, Nat.zero_add, Nat.add_zero, Bool.not_true, Bool.not_false, decide_true, decide_false, reduceIte, and_self, Bool.false_eq_true] <;> with_reducible rfl)))) | (with_reducible apply bind2_intro; (focus (first | with_reducible rfl | (simp only [walkR, get0, getS, Nat.zero_add, Nat.add_zero, Bool.not_true, Bool.not_false, decide_true, decide_false, reduceIte, and_self, Bool.false_eq_true] <;> with_reducible rfl)))) | with_reducible apply cond_t | with_reducible apply cond_f))
  refine bind2_of (log26 (n := n + 1995) ((hA10.keep k11).keep k12) (by omega) (by omega) (by omega)) ?_
  rintro _ H13 ⟨rfl, k13⟩
  have n13 := k13.next
  (repeat (first | (with_reducible apply bindP_intro; (focus (first | with_reducible rfl | (simp only [walkR, get0, getS, Nat.zero_add, Nat.add_zero, Bool.not_true, Bool.not_false, decide_true, decide_false, reduceIte, and_self, Bool.false_eq_true] <;> with_reducible rfl)))) | (with_reducible apply bind2_intro; (focus (first | with_reducible rfl | (simp only [walkR, get0, getS, Nat.zero_add, Nat.add_zero, Bool.not_true, Bool.not_false, decide_true, decide_false, reduceIte, and_self, Bool.false_eq_true] <;> with_reducible rfl)))) | with_reducible apply cond_t | with_reducible apply cond_f))
  refine bind2_of (log26 (n := n + 1995) (((hW10.keep k11).keep k12).keep k13) (by omega) (by omega) (by omega)) ?_
  rintro _ H14 ⟨rfl, k14⟩
  have n14 := k14.next
  have kk := ((k11.trans k12).trans k13).trans k14
  have hlast : lastP A' = lastP L := by rw [crL, cpL]
  have hlL := fL.last
  have tT : ∀ j, i + q1 + q2 ≤ j → termP A' j = termP L j := fun j hj => by rw [crT j hj, cpT j (by omega)]
  have tM : ∀ j, i + q1 + q2 ≤ j → (upToP A' j).1 = (upToP L j).1 := fun j hj => by rw [crM j hj, cpM j (by omega)]
  (repeat (first | (with_reducible apply bindP_intro; (focus (first | with_reducible rfl | (simp only [walkR, get0, getS, Nat.zero_add, Nat.add_zero, Bool.not_true, Bool.not_false, decide_true, decide_false, reduceIte, and_self, Bool.false_eq_true] <;> with_reducible rfl)))) | (with_reducible apply bind2_intro; (focus (first | with_reducible rfl | (simp only [walkR, get0, getS, Nat.zero_add, Nat.add_zero, Bool.not_true, Bool.not_false, decide_true, decide_false, reduceIte, and_self, Bool.false_eq_true] <;> with_reducible rfl)))) | with_reducible apply cond_t | with_reducible apply cond_f))
  rw [hlast]
  refine cut_loop (n := n + 1994) (z := (lastP L).1) (A := A') (W := L) (by rw [cri, hAl]; omega) (by omega) (by omega) (by omega) (by omega) (by omega) (fun H' => cut_end (n := n + 1998) rfl rfl (tM _ (by omega))) (n + 1999) (i + q1 + q2) H14 (hA10.keep kk) (hW10.keep kk) (by omega) (by omega) (by omega) (fun j h1 h2 => ⟨?_, tM j h1⟩)
  have h3 := termP_at (L := L) (q := j - L.idx) (by omega)
  have e1 : L.idx + (j - L.idx) = j := by omega
  rw [e1] at h3
  exact ⟨_, by rw [tT j h1]; exact h3, h3⟩

end Go.Proofs.Ytpefhojmfcenfaa.logs
