/- LogsOwn on the abstract machine. -/
import Derived.Test.YtpefhojmfcenfaaLgAgree
set_option maxRecDepth 100000
set_option linter.unusedVariables false
set_option linter.unusedSimpArgs false
namespace Go.Proofs.Ytpefhojmfcenfaa.logs
open Go.Ahs

/-- A body is written over. -/
theorem spoil {lim : Nat} {H : Heap} {w : AVal} {xs : List Ent} {b : Nat} (ho : Own H 13 w (xs.map enc) b) (hl : slBlk w = some b → lim ≤ b) {k : Nat} (hk : k < xs.length) (s : List UInt8) :
    ∃ (H' : Heap) (ys : List Ent), astore lim H 1 (slot w (k * 13 + 12)) (.str s) = some H' ∧ Own H' 13 w (ys.map enc) b ∧ ys.length = xs.length ∧ Fram (fun c => slBlk w = some c) H H' ∧ H'.next = H.next := by
  have hg : (xs.map enc)[k]? = some (enc xs[k]) := by simp [hk]
  obtain ⟨H1, s1, o1, f1, n1⟩ := own_store (lim := lim) ho hl hg (f := 12) (by omega) (y := .str s) rfl rfl
  refine ⟨H1, xs.set k { xs[k] with body := s }, s1, ?_, by simp, f1, n1⟩
  have : (xs.map enc).set k ((enc xs[k]).set 12 (.str s)) = (xs.set k { xs[k] with body := s }).map enc := by
    rw [List.map_set]; rfl
  rw [← this]; exact o1

/-- All bodies of what was handed in, and of what was told, are written over. -/
theorem own_loop {n lim : Nat} {K : AVal → Heap → Prop} {t9 t10 t12 t14 o tl f : AVal} {bo bt bf N F : Nat} {S : Nat → Prop} {H0 : Heap} (hSo : ∀ c, slBlk o = some c → S c ∧ lim ≤ c) (hSt : ∀ c, slBlk tl = some c → S c ∧ lim ≤ c) (hSf : ∀ c, slBlk f = some c → S c ∧ lim ≤ c)
    (d1 : ∀ c, slBlk o = some c → ¬ slBlk tl = some c) (d2 : ∀ c, slBlk o = some c → ¬ slBlk f = some c) (d3 : ∀ c, slBlk tl = some c → ¬ slBlk f = some c) (hN : N ≤ 1000) (hF : F ≤ 1000)
    (hK : ∀ H', Fram S H0 H' → F5_j0 (Ahs.runT ap n) lim n K t9 t10 t12 t14 H') :
    ∀ (j k : Nat) (H : Heap) (xs ys zs : List Ent), Own H 13 o (xs.map enc) bo → xs.length = N → Own H 13 tl (ys.map enc) bt → ys.length = N → Own H 13 f (zs.map enc) bf → zs.length = F → Fram S H0 H → N < j + k → k ≤ N →
      F5_l0 (Ahs.runT ap n) lim n K j t9 t10 o t12 t14 f tl (.int .i64 (k : Int)) H
  | 0, k, H, xs, ys, zs, _, _, _, _, _, _, _, hm, hk => by exfalso; omega
  | j + 1, k, H, xs, ys, zs, ho, hx, ht, hy, hf, hz, hfr, hm, hk => by
    show F5_s0 _ _ _ _ (F5_l0 _ _ _ _ j) _ _ _ _ _ _ _ _ H
    unfold F5_s0 F5_j1
    have eo : Es H o xs := ho.sl
    have et : Es H tl ys := ht.sl
    by_cases h1 : k < N
    · have hd : decide ((k : Int) < (xs.length : Int)) = true := dT (by omega)
      have hw : IntKind.i64.wrap ((k : Int) + 1) = ((k + 1 : Nat) : Int) := i64_succ (by omega)
      obtain ⟨H1, xs1, s1, o1, l1, f1, n1⟩ := spoil (lim := lim) ho (fun h => (hSo _ h).2) (k := k) (by omega) [111, 116, 104, 101, 114]
      have ht1 : Own H1 13 tl (ys.map enc) bt := by
        rcases ht.2 with ⟨q1, q2⟩ | ⟨o', cs, q1, q2, q3, q4⟩ | ⟨q1, q2⟩
        · exact ⟨ht.1, .inl ⟨q1, q2⟩⟩
        · exact ht.frame f1 (fun e => d1 _ e (by rw [q1]; rfl))
        · exact ht.frame f1 (fun e => d1 _ e (by rw [q1]; rfl))
      obtain ⟨H2, ys2, s2, o2, l2, f2, n2⟩ := spoil (lim := lim) ht1 (fun h => (hSt _ h).2) (k := k) (by omega) [111, 116, 104, 101, 114]
      have o12 : Own H2 13 o (xs1.map enc) bo := by
        rcases o1.2 with ⟨q1, q2⟩ | ⟨o', cs, q1, q2, q3, q4⟩ | ⟨q1, q2⟩
        · exact ⟨o1.1, .inl ⟨q1, q2⟩⟩
        · exact o1.frame f2 (fun e => d1 _ (by rw [q1]; rfl) e)
        · exact o1.frame f2 (fun e => d1 _ (by rw [q1]; rfl) e)
      have hf2 : Own H2 13 f (zs.map enc) bf := by
        rcases hf.2 with ⟨q1, q2⟩ | ⟨o', cs, q1, q2, q3, q4⟩ | ⟨q1, q2⟩
        · exact ⟨hf.1, .inl ⟨q1, q2⟩⟩
        · exact (hf.frame f1 (fun e => d2 _ e (by rw [q1]; rfl))).frame f2 (fun e => d3 _ e (by rw [q1]; rfl))
        · exact (hf.frame f1 (fun e => d2 _ e (by rw [q1]; rfl))).frame f2 (fun e => d3 _ e (by rw [q1]; rfl))
      have fr2 : Fram S H0 H2 := (hfr.trans f1 (fun c _ e => (hSo c e).1)).trans f2 (fun c _ e => (hSt c e).1)
      have ef : Es H2 f zs := hf2.sl
      by_cases h2 : k < F
      · have hd2 : decide ((k : Int) < (zs.length : Int)) = true := dT (by omega)
        obtain ⟨H3, zs3, s3, o3, l3, f3, n3⟩ := spoil (lim := lim) hf2 (fun h => (hSf _ h).2) (k := k) (by omega) [111, 116, 104, 101, 114]
        have fr3 := fr2.trans f3 (fun c _ e => (hSf c e).1)
        have o13 : Own H3 13 o (xs1.map enc) bo := by
          rcases o12.2 with ⟨q1, q2⟩ | ⟨o', cs, q1, q2, q3, q4⟩ | ⟨q1, q2⟩
          · exact ⟨o12.1, .inl ⟨q1, q2⟩⟩
          · exact o12.frame f3 (fun e => d2 _ (by rw [q1]; rfl) e)
          · exact o12.frame f3 (fun e => d2 _ (by rw [q1]; rfl) e)
        have o23 : Own H3 13 tl (ys2.map enc) bt := by
          rcases o2.2 with ⟨q1, q2⟩ | ⟨o', cs, q1, q2, q3, q4⟩ | ⟨q1, q2⟩
          · exact ⟨o2.1, .inl ⟨q1, q2⟩⟩
          · exact o2.frame f3 (fun e => d3 _ (by rw [q1]; rfl) e)
          · exact o2.frame f3 (fun e => d3 _ (by rw [q1]; rfl) e)
        (repeat (first | (with_reducible apply bindP_intro; (focus (first | with_reducible rfl | (simp only [walkR, get0, getS, Nat.zero_add, Nat.add_zero, Bool.not_true, Bool.not_false, decide_true, decide_false, reduceIte, and_self, Bool.false_eq_true, eo.len, hd, eo.addr (show k < xs.length by omega), eo.faddr (show k < xs.length by omega), s1, et.addr (show k < ys.length by omega), et.faddr (show k < ys.length by omega), s2, ef.len, hd2, ef.addr (show k < zs.length by omega), ef.faddr (show k < zs.length by omega), s3, hw] <;> with_reducible rfl)))) | (with_reducible apply bind2_intro; (focus (first | with_reducible rfl | (simp only [walkR, get0, getS, Nat.zero_add, Nat.add_zero, Bool.not_true, Bool.not_false, decide_true, decide_false, reduceIte, and_self, Bool.false_eq_true, eo.len, hd, eo.addr (show k < xs.length by omega), eo.faddr (show k < xs.length by omega), s1, et.addr (show k < ys.length by omega), et.faddr (show k < ys.length by omega), s2, ef.len, hd2, ef.addr (show k < zs.length by omega), ef.faddr (show k < zs.length by omega), s3, hw] <;> with_reducible rfl)))) | with_reducible apply cond_t | with_reducible apply cond_f))
        exact own_loop hSo hSt hSf d1 d2 d3 hN hF hK j (k + 1) H3 xs1 ys2 zs3 o13 (by omega) o23 (by omega) o3 (by omega) fr3 (by omega) (by omega)
      · have hd2 : decide ((k : Int) < (zs.length : Int)) = false := dF (by omega)
        (repeat (first | (with_reducible apply bindP_intro; (focus (first | with_reducible rfl | (simp only [walkR, get0, getS, Nat.zero_add, Nat.add_zero, Bool.not_true, Bool.not_false, decide_true, decide_false, reduceIte, and_self, Bool.false_eq_true, eo.len, hd, eo.addr (show k < xs.length by omega), eo.faddr (show k < xs.length by omega), s1, et.addr (show k < ys.length by omega), et.faddr (show k < ys.length by omega), s2, ef.len, hd2, hw] <;> with_reducible rfl)))) | (with_reducible apply bind2_intro; (focus (first | with_reducible rfl | (simp only [walkR, get0, getS, Nat.zero_add, Nat.add_zero, Bool.not_true, Bool.not_false, decide_true, decide_false, reduceIte, and_self, Bool.false_eq_true, eo.len, hd, eo.addr (show k < xs.length by omega), eo.faddr (show k < xs.length by omega), s1, et.addr (show k < ys.length by omega), et.faddr (show k < ys.length by omega), s2, ef.len, hd2, hw] <;> with_reducible rfl)))) | with_reducible apply cond_t | with_reducible apply cond_f))
        exact own_loop hSo hSt hSf d1 d2 d3 hN hF hK j (k + 1) H2 xs1 ys2 zs o12 (by omega) o2 (by omega) hf2 (by omega) fr2 (by omega) (by omega)
    · have hd : decide ((k : Int) < (xs.length : Int)) = false := dF (by omega)
      (repeat (first | (with_reducible apply bindP_intro; (focus (first | with_reducible rfl | (simp only [walkR, get0, getS, Nat.zero_add, Nat.add_zero, Bool.not_true, Bool.not_false, decide_true, decide_false, reduceIte, and_self, Bool.false_eq_true, eo.len, hd] <;> with_reducible rfl)))) | (with_reducible apply bind2_intro; (focus (first | with_reducible rfl | (simp only [walkR, get0, getS, Nat.zero_add, Nat.add_zero, Bool.not_true, Bool.not_false, decide_true, decide_false, reduceIte, and_self, Bool.false_eq_true, eo.len, hd] <;> with_reducible rfl)))) | with_reducible apply cond_t | with_reducible apply cond_f))
      exact hK H hfr

set_option maxHeartbeats 4000000 in
theorem owns {n lim : Nat} {H : Heap} {wl wr : AVal} {l : List Ent} {rs : List Nat} (hl : Es H wl l) (hr : Bs H wr rs) (okl : ∀ e ∈ l, e.ok) (hrl : rs.length ≤ 9223372036854775807)
    (hlim : lim ≤ H.next) {i t : Nat} (hi0 : i < 18446744073709551616) (ht0 : t < 18446744073709551616) :
    ∃ r H', Ahs.runT ap (n + 100) lim (.fn 5) [.int .u64 (i : Int), .int .u64 (t : Int), wl, wr] H = some (r, H') ∧ r = .bool true := by
  refine F5_run (n := n + 99) a5 ?_
  unfold F5
  have gl : Ahs.runT ap (n + 99) lim (.fn 15) [wl] H = _ := great15 (n := n + 98) (lim := lim) hl (by omega)
  cases hg1 : greatEs l with
  | true =>
    (repeat (first | (with_reducible apply bindP_intro; (focus (first | with_reducible rfl | (simp only [walkR, get0, getS, Nat.zero_add, Nat.add_zero, Bool.not_true, Bool.not_false, decide_true, decide_false, reduceIte, and_self, Bool.false_eq_true, gl, hg1, b16] <;> with_reducible rfl)))) | (with_reducible apply bind2_intro; (focus (first | with_reducible rfl | (simp only [walkR, get0, getS, Nat.zero_add, Nat.add_zero, Bool.not_true, Bool.not_false, decide_true, decide_false, reduceIte, and_self, Bool.false_eq_true, gl, hg1, b16] <;> with_reducible rfl)))) | with_reducible apply cond_t | with_reducible apply cond_f))
    rfl
  | false =>
  by_cases hi : 1152921504606846976 < i
  · have hd : decide ((1152921504606846976 : Int) < (i : Int)) = true := dT (by omega)
    (repeat (first | (with_reducible apply bindP_intro; (focus (first | with_reducible rfl | (simp only [walkR, get0, getS, Nat.zero_add, Nat.add_zero, Bool.not_true, Bool.not_false, decide_true, decide_false, reduceIte, and_self, Bool.false_eq_true, gl, hg1, hd, b16] <;> with_reducible rfl)))) | (with_reducible apply bind2_intro; (focus (first | with_reducible rfl | (simp only [walkR, get0, getS, Nat.zero_add, Nat.add_zero, Bool.not_true, Bool.not_false, decide_true, decide_false, reduceIte, and_self, Bool.false_eq_true, gl, hg1, hd, b16] <;> with_reducible rfl)))) | with_reducible apply cond_t | with_reducible apply cond_f))
    rfl
  have hdi : decide ((1152921504606846976 : Int) < (i : Int)) = false := dF (by omega)
  by_cases ht : 1152921504606846976 < t
  · have hd : decide ((1152921504606846976 : Int) < (t : Int)) = true := dT (by omega)
    (repeat (first | (with_reducible apply bindP_intro; (focus (first | with_reducible rfl | (simp only [walkR, get0, getS, Nat.zero_add, Nat.add_zero, Bool.not_true, Bool.not_false, decide_true, decide_false, reduceIte, and_self, Bool.false_eq_true, gl, hg1, hdi, hd, b16] <;> with_reducible rfl)))) | (with_reducible apply bind2_intro; (focus (first | with_reducible rfl | (simp only [walkR, get0, getS, Nat.zero_add, Nat.add_zero, Bool.not_true, Bool.not_false, decide_true, decide_false, reduceIte, and_self, Bool.false_eq_true, gl, hg1, hdi, hd, b16] <;> with_reducible rfl)))) | with_reducible apply cond_t | with_reducible apply cond_f))
    rfl
  have hdt : decide ((1152921504606846976 : Int) < (t : Int)) = false := dF (by omega)
  have hll := greatEs_len hg1
  have hrm : room = 140737488355328 := rfl
  (repeat (first | (with_reducible apply bindP_intro; (focus (first | with_reducible rfl | (simp only [walkR, get0, getS, Nat.zero_add, Nat.add_zero, Bool.not_true, Bool.not_false, decide_true, decide_false, reduceIte, and_self, Bool.false_eq_true, gl, hg1, hdi, hdt] <;> with_reducible rfl)))) | (with_reducible apply bind2_intro; (focus (first | with_reducible rfl | (simp only [walkR, get0, getS, Nat.zero_add, Nat.add_zero, Bool.not_true, Bool.not_false, decide_true, decide_false, reduceIte, and_self, Bool.false_eq_true, gl, hg1, hdi, hdt] <;> with_reducible rfl)))) | with_reducible apply cond_t | with_reducible apply cond_f))
  refine bind2_of (grown17 (n := n + 94) (m := 7) hl hr (by omega) hrl hlim (by omega) (by omega : i ≤ 1152921504606846976) (by omega : t ≤ 1152921504606846976)) ?_
  rintro _ H1 ⟨ba, va, rfl, hA, hba, hva, k1⟩
  have fA : (grownP rs 0 t ⟨i, t, 7, []⟩ l).Fits := grownP_fits rs l 0 t _ rfl
  have okA := grownP_ok rs l 0 t ⟨i, t, 7, []⟩ t rfl (fun _ h => by simp at h) okl (fun _ h => by simp at h) (Nat.le_refl _) (Nat.le_refl _) (by omega) (by show i + 0 + l.length < _; omega)
  obtain ⟨iA, tA, _, nA⟩ := grownP_idx rs l 0 t ⟨i, t, 7, []⟩
  generalize grownP rs 0 t ⟨i, t, 7, []⟩ l = A at *
  have iA' : A.idx = i := iA
  have tA' : A.term = t := tA
  have nA' : A.es.length = l.length := by rw [nA]; simp
  have n1 := k1.next
  have hAall : fromP A 0 1048576 = A.es := fromP_all (by omega)
  (repeat (first | (with_reducible apply bindP_intro; (focus (first | with_reducible rfl | (simp only [walkR, get0, getS, Nat.zero_add, Nat.add_zero, Bool.not_true, Bool.not_false, decide_true, decide_false, reduceIte, and_self, Bool.false_eq_true, ptr_ne] <;> with_reducible rfl)))) | (with_reducible apply bind2_intro; (focus (first | with_reducible rfl | (simp only [walkR, get0, getS, Nat.zero_add, Nat.add_zero, Bool.not_true, Bool.not_false, decide_true, decide_false, reduceIte, and_self, Bool.false_eq_true, ptr_ne] <;> with_reducible rfl)))) | with_reducible apply cond_t | with_reducible apply cond_f))
  refine bind2_of (log19 (n := n + 96) hA (by omega) (by omega) (by omega) (i := 0) (most := 1048576) (by omega) (by omega)) ?_
  rintro wa H2 ⟨⟨b2, o2⟩, k2, f2⟩
  rw [hAall] at o2
  have n2 := k2.next
  -- own: a copy
  have hf0 : fillV [] [] = some [] := rfl
  have kp : Keeps2 H2 (H2.push (.cells [])) := .push _ _
  have ho : Own (H2.push (.cells [])) 13 (.sl (some (H2.next, 0)) 0 (.ex 0)) [] H2.next := ⟨fun _ h => by simp at h, .inr (.inl ⟨0, [], rfl, rfl, cells_push_new H2 [], Nat.le_refl 0⟩)⟩
  obtain ⟨p, H3, bp, e1, e2, e3, e4, e5⟩ := own_append (lim := lim) (zero := z0) (bytes := 48) (ys := A.es.map enc) ho rfl (by omega) (Sl.source (o2.sl.keep kp)) (enc_each A.es) (by simp; omega) (by simp; omega) (fun _ => by omega)
  have k3 : Keeps2 H2 H3 := Fram.keeps kp e3 (fun c hc e => by simp [slBlk] at e; omega)
  have n3 := k3.next
  have hpn : ∀ c, slBlk p = some c → H2.next ≤ c := by
    intro c hc
    have := e2.blk c hc
    subst this
    rcases e4 with ⟨rfl, _⟩ | e4
    · exact Nat.le_refl _
    · rw [Heap.next_push] at e4; omega
  have ownP : Own H3 13 p (A.es.map enc) bp := by simpa using e2
  have hpone := ownP.one
  have hf1 : fillV [(.sl none 0 (.ex 0))] [(0, 1, p)] = some [p] := by
    simp only [fillV, hpone.2]; rfl
  generalize hH4 : H3.push (.cells [p]) = H4
  have k4 : Keeps2 H3 H4 := by rw [← hH4]; exact .push _ _
  have n4 := k4.next
  have hs4 : Sl H4 1 (.sl (some (H3.next, 0)) 1 (.ex 1)) [[p]] := ⟨.inr ⟨H3.next, 0, .ex 1, [p], rfl, Nat.le_refl 1, by rw [← hH4]; exact cells_push_new _ _, Nat.le_refl 1, rfl⟩, fun x hx => by simp at hx; subst hx; rfl⟩
  (repeat (first | (with_reducible apply bindP_intro; (focus (first | with_reducible rfl | (simp only [walkR, get0, getS, Nat.zero_add, Nat.add_zero, Bool.not_true, Bool.not_false, decide_true, decide_false, reduceIte, and_self, Bool.false_eq_true, hf0, e1, hf1, hH4] <;> with_reducible rfl)))) | (with_reducible apply bind2_intro; (focus (first | with_reducible rfl | (simp only [walkR, get0, getS, Nat.zero_add, Nat.add_zero, Bool.not_true, Bool.not_false, decide_true, decide_false, reduceIte, and_self, Bool.false_eq_true, hf0, e1, hf1, hH4] <;> with_reducible rfl)))) | with_reducible apply cond_t | with_reducible apply cond_f))
  refine bind2_of (new1 (n := n + 92) (lim := lim) (i := i) (t := t) (m := 7) (by omega) hs4 ((ownP.sl.keep k4) : Es H4 p A.es) okA (by omega) (by omega) (by omega)) ?_
  rintro r5 H5 ⟨hr5, k5⟩
  have hfit : fitP i t A.es = true := by rw [← iA', ← tA']; exact fA
  rw [if_pos hfit] at hr5
  obtain ⟨bb, vb, rfl, hB, hbb, hvb⟩ := hr5
  have n5 := k5.next
  (repeat (first | (with_reducible apply bindP_intro; (focus (first | with_reducible rfl | (simp only [walkR, get0, getS, Nat.zero_add, Nat.add_zero, Bool.not_true, Bool.not_false, decide_true, decide_false, reduceIte, and_self, Bool.false_eq_true] <;> with_reducible rfl)))) | (with_reducible apply bind2_intro; (focus (first | with_reducible rfl | (simp only [walkR, get0, getS, Nat.zero_add, Nat.add_zero, Bool.not_true, Bool.not_false, decide_true, decide_false, reduceIte, and_self, Bool.false_eq_true] <;> with_reducible rfl)))) | with_reducible apply cond_t | with_reducible apply cond_f))
  refine bind2_of (new0 (n := n + 95) (lim := lim) (i := i) (t := t) (m := 7) (by omega) (by omega)) ?_
  rintro _ H6 ⟨⟨bc, rfl, hC, hbc⟩, k6⟩
  have n6 := k6.next
  (repeat (first | (with_reducible apply bindP_intro; (focus (first | with_reducible rfl | (simp only [walkR, get0, getS, Nat.zero_add, Nat.add_zero, Bool.not_true, Bool.not_false, decide_true, decide_false, reduceIte, and_self, Bool.false_eq_true, ptr_ne] <;> with_reducible rfl)))) | (with_reducible apply bind2_intro; (focus (first | with_reducible rfl | (simp only [walkR, get0, getS, Nat.zero_add, Nat.add_zero, Bool.not_true, Bool.not_false, decide_true, decide_false, reduceIte, and_self, Bool.false_eq_true, ptr_ne] <;> with_reducible rfl)))) | with_reducible apply cond_t | with_reducible apply cond_f))
  -- what is put into the empty one
  have ep6 : Es H6 p A.es := ((ownP.sl.keep k4).keep k5).keep k6
  have lowC : ∀ c, foot bc (.sl none 0 (.ex 0)) c → lim ≤ c := by
    rintro c (rfl | hc)
    · omega
    · simp [slBlk] at hc
  refine bind2_of (log20 (n := n + 94) (t := t) (i := i) hC (by show i + 0 < _; omega) (by show 0 ≤ 900000; omega) ep6 okA (by omega) (by omega) (by omega) lowC (fun b hb e => by
    have := own_lt ownP b hb
    omega) (by omega)) ?_
  rintro r7 H7 hp
  have htC : termP ⟨i, t, 7, []⟩ i = some t := by
    unfold termP
    rw [if_neg (by show ¬ (i < i ∧ _); omega), if_pos rfl]
  have hj : joinsP ⟨i, t, 7, []⟩ i t A.es = true := by
    unfold joinsP
    rw [hfit, htC, if_neg (by show ¬ i < i; omega)]
    simp
  rw [hj] at hp
  simp only [if_true] at hp
  obtain ⟨f, vc, bf, rfl, hC7, o7, fr7, hvc, hf7⟩ := hp
  have pf := put_facts (L := ⟨i, t, 7, []⟩) (i := i) (t := t) (es := A.es) (Nat.le_refl _) htC hfit
  have hC7' : LogAt H7 bc vc (putP ⟨i, t, 7, []⟩ A.es) := hC7
  have n7 := fr7.next
  have hCes : (putP ⟨i, t, 7, []⟩ A.es).es = A.es := by
    rcases pf.stays with hst | ⟨q, hq, hes', hne, hqb, hfq⟩
    · have h1 := pf.len
      rw [hst] at h1
      have h2 : A.es.length = 0 := by
        have : i - i + A.es.length ≤ 0 := h1
        omega
      rw [hst, List.length_eq_zero_iff.1 h2]
    · have h1 : i - i + q ≤ 0 := hqb
      have h2 : q = 0 := by omega
      rw [hes', h2, List.drop_zero, show ({ idx := i, term := t, mem := 7, es := [] } : Lg).es = [] from rfl, List.take_nil, List.nil_append]
  have hCidx := pf.idx
  generalize putP ⟨i, t, 7, []⟩ A.es = C at *
  have hCidx' : C.idx = i := hCidx
  -- blocks
  have ltA := hA.lt
  have fA7 : LogAt H7 ba va A := (((((hA.keep k2).keep k3).keep k4).keep k5).keep k6).frame fr7 (fun c hc hfc => by
    have h1 := ltA c hc
    rcases hfc with rfl | hfc
    · omega
    · simp [slBlk] at hfc)
  have fB7 : LogAt H7 bb vb ⟨i, t, 7, A.es⟩ := (hB.keep k6).frame fr7 (fun c hc hfc => by
    have h1 := hB.lt c hc
    rcases hfc with rfl | hfc
    · omega
    · simp [slBlk] at hfc)
  have ownP7 : Own H7 13 p (A.es.map enc) bp := by
    have q : Own H6 13 p (A.es.map enc) bp := by
      have kk := (k4.trans k5).trans k6
      rcases ownP.2 with ⟨q1, q2⟩ | ⟨o', cs, q1, q2, q3, q4⟩ | ⟨q1, q2⟩
      · exact ⟨ownP.1, .inl ⟨q1, q2⟩⟩
      · exact ownP.frame (Fram.of (S := fun _ => False) kk) (fun h => h)
      · exact ownP.frame (Fram.of (S := fun _ => False) kk) (fun h => h)
    have hlt := own_lt ownP
    rcases q.2 with ⟨q1, q2⟩ | ⟨o', cs, q1, q2, q3, q4⟩ | ⟨q1, q2⟩
    · exact ⟨q.1, .inl ⟨q1, q2⟩⟩
    · have := hlt bp (by rw [q1]; rfl)
      exact q.frame fr7 (fun e => by
        rcases e with e | e
        · omega
        · simp [slBlk] at e)
    · have := hlt bp (by rw [q1]; rfl)
      exact q.frame fr7 (fun e => by
        rcases e with e | e
        · omega
        · simp [slBlk] at e)
  have ewa7 : Es H7 wa A.es := Sl.frame fr7 ((((o2.sl.keep k3).keep k4).keep k5).keep k6) (fun c hc hfc => by
    have h1 := own_lt o2 c hc
    rcases hfc with rfl | hfc
    · omega
    · simp [slBlk] at hfc)
  (repeat (first | (with_reducible apply bindP_intro; (focus (first | with_reducible rfl | (simp only [walkR, get0, getS, Nat.zero_add, Nat.add_zero, Bool.not_true, Bool.not_false, decide_true, decide_false, reduceIte, and_self, Bool.false_eq_true] <;> with_reducible rfl)))) | (with_reducible apply bind2_intro; (focus (first | with_reducible rfl | (simp only [walkR, get0, getS, Nat.zero_add, Nat.add_zero, Bool.not_true, Bool.not_false, decide_true, decide_false, reduceIte, and_self, Bool.false_eq_true] <;> with_reducible rfl)))) | with_reducible apply cond_t | with_reducible apply cond_f))
  refine bind2_of (log19 (n := n + 96) fA7 (by omega) (by omega) (by omega) (i := 0) (most := 1048576) (by omega) (by omega)) ?_
  rintro wt H8 ⟨⟨b8, o8⟩, k8, f8⟩
  rw [hAall] at o8
  have n8 := k8.next
  have keepOwn : ∀ {w : AVal} {xs : List (List AVal)} {b : Nat}, Own H7 13 w xs b → Own H8 13 w xs b := by
    intro w xs b q
    rcases q.2 with ⟨q1, q2⟩ | ⟨o', cs, q1, q2, q3, q4⟩ | ⟨q1, q2⟩
    · exact ⟨q.1, .inl ⟨q1, q2⟩⟩
    · exact q.frame (Fram.of (S := fun _ => False) k8) (fun h => h)
    · exact q.frame (Fram.of (S := fun _ => False) k8) (fun h => h)
  have ltP := own_lt ownP
  have ltF := own_lt o7
  have lt8 := own_lt o8
  refine own_loop (n := n + 99) (lim := lim) (S := fun c => slBlk p = some c ∨ slBlk wt = some c ∨ slBlk f = some c) (N := A.es.length) (F := (freshP ⟨i, t, 7, []⟩ A.es).length) (H0 := H8) (bo := bp) (bt := b8) (bf := bf)
    (fun c hc => ⟨.inl hc, by have := hpn c hc; omega⟩) (fun c hc => ⟨.inr (.inl hc), by have := f8 c hc; omega⟩) (fun c hc => ⟨.inr (.inr hc), by have := (hf7 c hc).1; omega⟩)
    (fun c h1 h2 => by have := ltP c h1; have := f8 c h2; omega) (fun c h1 h2 => by have := ltP c h1; have := (hf7 c h2).1; omega) (fun c h1 h2 => by have := f8 c h1; have := ltF c h2; omega) (by omega)
    (by have : (freshP ⟨i, t, 7, []⟩ A.es).length ≤ A.es.length := (List.dropWhile_sublist _).length_le; omega)
    (fun H9 fr9 => ?_) (n + 99) 0 H8 A.es A.es _ (keepOwn ownP7) rfl o8 rfl (keepOwn o7) rfl (.refl _ _) (by omega) (by omega)
  -- what was handed in, and told, has been written over: the logs stand as they stood
  have n9 := fr9.next
  have ltFC := hC7'.lt
  have old : ∀ c, c < H7.next → ¬ slBlk p = some c → ¬ slBlk f = some c → ¬ (slBlk p = some c ∨ slBlk wt = some c ∨ slBlk f = some c) := by
    rintro c hc h1 h2 (h | h | h)
    · exact h1 h
    · have := f8 c h; omega
    · exact h2 h
  have gA : LogAt H9 ba va A := (fA7.keep k8).frame fr9 (fun c hc => old c (by have := ltA c hc; omega) (fun h => by have := ltA c hc; have := hpn c h; omega) (fun h => by have := ltA c hc; have := (hf7 c h).1; omega))
  have gB : LogAt H9 bb vb ⟨i, t, 7, A.es⟩ := (fB7.keep k8).frame fr9 (fun c hc => by
    have h0 := hB.lt c hc
    refine old c (by omega) (fun h => ?_) (fun h => by have := (hf7 c h).1; omega)
    have h1 := ltP c h
    rcases hc with rfl | hc
    · omega
    · have := hvb c hc; omega)
  have gC : LogAt H9 bc vc C := (hC7'.keep k8).frame fr9 (fun c hc => by
    refine old c (ltFC c hc) (fun h => ?_) (fun h => ?_)
    · have h1 := ltP c h
      rcases hc with rfl | hc
      · omega
      · rcases hvc c hc with h2 | h2
        · simp [slBlk] at h2
        · omega
    · rcases hc with rfl | hc
      · have := (hf7 _ h).1
        have := hC.lt _ (.inl rfl); omega
      · exact (hf7 c h).2 hc)
  have gw : Es H9 wa A.es := Sl.frame fr9 (ewa7.keep k8) (fun c hc => old c (by have := own_lt o2 c hc; omega) (fun h => by have := own_lt o2 c hc; have := hpn c h; omega) (fun h => by have := own_lt o2 c hc; have := (hf7 c h).1; omega))
  unfold F5_j0
  refine bind2_of (log19 (n := n + 96) gA (by omega) (by omega) (by omega) (i := 0) (most := 1048576) (by omega) (by omega)) ?_
  rintro x1 G1 ⟨⟨c1, y1⟩, q1, z1⟩
  rw [hAall] at y1
  have m1 := q1.next
  have s1 : Ahs.runT ap (n + 99) lim (.fn 21) [x1, wa] G1 = _ := same21 (n := n + 98) (y1.sl : Es G1 x1 _) (gw.keep q1) (by omega) (by omega)
  have tt : ∀ xs : List Ent, decide (xs = xs) = true := fun xs => dT rfl
  (repeat (first | (with_reducible apply bindP_intro; (focus (first | with_reducible rfl | (simp only [walkR, get0, getS, Nat.zero_add, Nat.add_zero, Bool.not_true, Bool.not_false, decide_true, decide_false, reduceIte, and_self, Bool.false_eq_true, s1, tt] <;> with_reducible rfl)))) | (with_reducible apply bind2_intro; (focus (first | with_reducible rfl | (simp only [walkR, get0, getS, Nat.zero_add, Nat.add_zero, Bool.not_true, Bool.not_false, decide_true, decide_false, reduceIte, and_self, Bool.false_eq_true, s1, tt] <;> with_reducible rfl)))) | with_reducible apply cond_t | with_reducible apply cond_f))
  refine bind2_of (log19 (n := n + 96) (gB.keep q1) (by show i + A.es.length < _; omega) (by show A.es.length * 48 ≤ _; omega) (by omega) (i := 0) (most := 1048576) (by omega) (by omega)) ?_
  rintro x2 G2 ⟨⟨c2, y2⟩, q2, z2⟩
  have m2 := q2.next
  have hBall : fromP ⟨i, t, 7, A.es⟩ 0 1048576 = A.es := fromP_all (by show A.es.length ≤ _; omega)
  rw [hBall] at y2
  have s2 : Ahs.runT ap (n + 99) lim (.fn 21) [x2, wa] G2 = _ := same21 (n := n + 98) (y2.sl : Es G2 x2 _) ((gw.keep q1).keep q2) (by omega) (by omega)
  (repeat (first | (with_reducible apply bindP_intro; (focus (first | with_reducible rfl | (simp only [walkR, get0, getS, Nat.zero_add, Nat.add_zero, Bool.not_true, Bool.not_false, decide_true, decide_false, reduceIte, and_self, Bool.false_eq_true, s2, tt] <;> with_reducible rfl)))) | (with_reducible apply bind2_intro; (focus (first | with_reducible rfl | (simp only [walkR, get0, getS, Nat.zero_add, Nat.add_zero, Bool.not_true, Bool.not_false, decide_true, decide_false, reduceIte, and_self, Bool.false_eq_true, s2, tt] <;> with_reducible rfl)))) | with_reducible apply cond_t | with_reducible apply cond_f))
  refine bind2_of (log19 (n := n + 96) ((gC.keep q1).keep q2) (by rw [hCes]; omega) (by rw [hCes]; omega) (by omega) (i := 0) (most := 1048576) (by omega) (by omega)) ?_
  rintro x3 G3 ⟨⟨c3, y3⟩, q3, z3⟩
  have hCall : fromP C 0 1048576 = A.es := by rw [fromP_all (by rw [hCes]; omega), hCes]
  rw [hCall] at y3
  have s3 : Ahs.runT ap (n + 99) lim (.fn 21) [x3, wa] G3 = _ := same21 (n := n + 98) (y3.sl : Es G3 x3 _) (((gw.keep q1).keep q2).keep q3) (by omega) (by omega)
  (repeat (first | (with_reducible apply bindP_intro; (focus (first | with_reducible rfl | (simp only [walkR, get0, getS, Nat.zero_add, Nat.add_zero, Bool.not_true, Bool.not_false, decide_true, decide_false, reduceIte, and_self, Bool.false_eq_true, s3, tt, b16] <;> with_reducible rfl)))) | (with_reducible apply bind2_intro; (focus (first | with_reducible rfl | (simp only [walkR, get0, getS, Nat.zero_add, Nat.add_zero, Bool.not_true, Bool.not_false, decide_true, decide_false, reduceIte, and_self, Bool.false_eq_true, s3, tt, b16] <;> with_reducible rfl)))) | with_reducible apply cond_t | with_reducible apply cond_f))
  rfl

end Go.Proofs.Ytpefhojmfcenfaa.logs
