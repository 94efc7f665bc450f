/- LogsPut on the abstract machine. -/
import Derived.Test.YtpefhojmfcenfaaLgAgree
set_option maxRecDepth 100000
set_option linter.unusedVariables false
set_option linter.unusedSimpArgs false
namespace Go.Proofs.Ytpefhojmfcenfaa.logs
open Go.Ahs

/-- Entries of which the first k have their indexes counted on. -/
def curP (a k : Nat) (m : List Ent) : List Ent := m.mapIdx fun i e => if i < k then { e with idx := a + i + 1 } else e

theorem curP_len (a k : Nat) (m : List Ent) : (curP a k m).length = m.length := by simp [curP]
theorem curP_get {a k : Nat} {m : List Ent} {i : Nat} (hi : i < m.length) : (curP a k m)[i]? = some (if i < k then { m[i] with idx := a + i + 1 } else m[i]) := by
  simp [curP, hi]
theorem curP_zero (a : Nat) (m : List Ent) : curP a 0 m = m := by
  apply List.ext_getElem?
  intro i
  rcases Nat.lt_or_ge i m.length with h | h
  · rw [curP_get h, if_neg (by omega), List.getElem?_eq_getElem h]
  · rw [List.getElem?_eq_none (by rw [curP_len]; exact h), List.getElem?_eq_none h]

theorem curP_step {a k : Nat} {m : List Ent} (hk : k < m.length) : ((curP a k m).map enc).set k ((enc m[k]).set 0 (.int .u64 ((a + k + 1 : Nat) : Int))) = (curP a (k + 1) m).map enc := by
  apply List.ext_getElem?
  intro i
  rw [List.getElem?_set]
  rcases Nat.lt_or_ge i m.length with h | h
  · by_cases e : k = i
    · subst e
      rw [if_pos rfl, if_pos (by rw [List.length_map, curP_len]; exact hk), List.getElem?_map, curP_get hk, if_pos (by omega)]
      rfl
    · rw [if_neg e, List.getElem?_map, List.getElem?_map, curP_get h, curP_get h]
      by_cases h2 : i < k
      · rw [if_pos h2, if_pos (by omega)]
      · rw [if_neg h2, if_neg (by omega)]
  · rw [if_neg (by omega), List.getElem?_eq_none (by rw [List.length_map, curP_len]; exact h), List.getElem?_eq_none (by rw [List.length_map, curP_len]; exact h)]

theorem curP_ok {a : Nat} {m : List Ent} (hm : ∀ e ∈ m, e.ok) (ha : a + m.length < 18446744073709551616) : ∀ e ∈ curP a m.length m, e.ok := by
  intro e he
  obtain ⟨i, hi, h⟩ := List.getElem_of_mem he
  rw [curP_len] at hi
  have h1 := curP_get (a := a) (k := m.length) hi
  rw [List.getElem?_eq_getElem (by rw [curP_len]; exact hi), if_pos hi, h] at h1
  simp at h1
  subst h1
  have := hm m[i] (List.getElem_mem hi)
  exact ⟨by show a + i + 1 < _; omega, this.term, this.kind⟩

/-- The indexes are counted on. -/
theorem number_loop {n lim : Nat} {K : AVal → Heap → Prop} {w : AVal} {m : List Ent} {H0 : Heap} {bp a : Nat} {t6 t15 : AVal} (ha : a + m.length < 9223372036854775808) (hlow : ∀ c, slBlk w = some c → lim ≤ c) (hml : m.length ≤ 1000)
    (hK : ∀ H', Own H' 13 w ((curP a m.length m).map enc) bp → Fram (fun c => slBlk w = some c) H0 H' → F4_j1 (Ahs.runT ap n) lim n K t6 t15 (.int .u64 (a : Int)) w H') :
    ∀ (j k : Nat) (H : Heap), Own H 13 w ((curP a k m).map enc) bp → Fram (fun c => slBlk w = some c) H0 H → m.length < j + k → k ≤ m.length → F4_l0 (Ahs.runT ap n) lim n K j t6 t15 (.int .u64 (a : Int)) w (.int .i64 (k : Int)) H
  | 0, k, H, _, _, hm, hk => by exfalso; omega
  | j + 1, k, H, ho, hf, hm, hk => by
    show F4_s0 _ _ _ _ (F4_l0 _ _ _ _ j) _ _ _ _ _ H
    unfold F4_s0
    have hes : Es H w (curP a k m) := ho.sl
    have hlen : alen false w = some (.int .i64 (m.length : Int)) := by have := hes.len; rw [curP_len] at this; exact this
    by_cases h1 : k < m.length
    · have hd : decide ((k : Int) < (m.length : Int)) = true := dT (by omega)
      have hw : IntKind.i64.wrap ((k : Int) + 1) = ((k + 1 : Nat) : Int) := i64_succ (by omega)
      have hwk : IntKind.u64.wrap (k : Int) = (k : Int) := wrap_u64 (by omega) (by omega)
      have hwa : IntKind.u64.wrap ((a : Int) + (k : Int)) = ((a + k : Nat) : Int) := by rw [wrap_u64 (by omega) (by omega)]; omega
      have hwa1 : IntKind.u64.wrap (((a + k : Nat) : Int) + 1) = ((a + k + 1 : Nat) : Int) := u64_succ (by omega)
      have hcl : k < (curP a k m).length := by rw [curP_len]; exact h1
      have hg : ((curP a k m).map enc)[k]? = some (enc m[k]) := by
        rw [List.getElem?_map, curP_get h1, if_neg (by omega)]; rfl
      obtain ⟨H1, s1, o1, f1, n1⟩ := own_store (lim := lim) ho (fun h => hlow _ h) hg (f := 0) (by omega) (y := .int .u64 ((a + k + 1 : Nat) : Int)) rfl rfl
      rw [curP_step h1] at o1
      have s1' : astore lim H 1 (slot w (k * 13)) (.int .u64 ((a + k + 1 : Nat) : Int)) = some H1 := s1
      have hfa := hes.faddr hcl 0
      (repeat (first | (with_reducible apply bindP_intro; (focus (first | with_reducible rfl | (simp only [walkR, get0, getS, Nat.zero_add, Nat.add_zero, Bool.not_true, Bool.not_false, decide_true, decide_false, reduceIte, and_self, Bool.false_eq_true, hlen, hd, hwk, hwa, hwa1, hes.addr hcl, hfa, s1, s1', hw] <;> with_reducible rfl)))) | (with_reducible apply bind2_intro; (focus (first | with_reducible rfl | (simp only [walkR, get0, getS, Nat.zero_add, Nat.add_zero, Bool.not_true, Bool.not_false, decide_true, decide_false, reduceIte, and_self, Bool.false_eq_true, hlen, hd, hwk, hwa, hwa1, hes.addr hcl, hfa, s1, s1', hw] <;> with_reducible rfl)))) | with_reducible apply cond_t | with_reducible apply cond_f))
      exact number_loop ha hlow hml hK j (k + 1) H1 o1 (hf.trans f1 (fun c _ e => e)) (by omega) (by omega)
    · have hd : decide ((k : Int) < (m.length : Int)) = false := dF (by omega)
      (repeat (first | (with_reducible apply bindP_intro; (focus (first | with_reducible rfl | (simp only [walkR, get0, getS, Nat.zero_add, Nat.add_zero, Bool.not_true, Bool.not_false, decide_true, decide_false, reduceIte, and_self, Bool.false_eq_true, hlen, hd] <;> with_reducible rfl)))) | (with_reducible apply bind2_intro; (focus (first | with_reducible rfl | (simp only [walkR, get0, getS, Nat.zero_add, Nat.add_zero, Bool.not_true, Bool.not_false, decide_true, decide_false, reduceIte, and_self, Bool.false_eq_true, hlen, hd] <;> with_reducible rfl)))) | with_reducible apply cond_t | with_reducible apply cond_f))
      have : k = m.length := by omega
      subst this
      exact hK H ho hf

/-- The log's terms never fall, and its indexes count on. -/
theorem rows_loop {n lim : Nat} {K : AVal → Heap → Prop} {H : Heap} {w : AVal} {es : List Ent} {i t : Nat} {t15 t19 t20 t22 t23 t24 : AVal} (hw : Es H w es) (hf : fitP i t es = true) (hlen : es.length ≤ 1000000) (hb : i + es.length < 9223372036854775808)
    (hK : F4_j0 (Ahs.runT ap n) lim n K t15 t19 t20 t22 t23 t24 w H) :
    ∀ (j k : Nat), es.length < j + k → 1 ≤ k → 1 ≤ j → F4_l2 (Ahs.runT ap n) lim n K j t15 t19 t20 t22 t23 t24 w (.int .i64 (k : Int)) H
  | 0, k, hm, _, hj => by omega
  | j + 1, k, hm, hk, _ => by
    show F4_s2 _ _ _ _ (F4_l2 _ _ _ _ j) _ _ _ _ _ _ _ _ H
    unfold F4_s2
    by_cases h1 : k < es.length
    · have hd : decide ((k : Int) < (es.length : Int)) = true := dT (by omega)
      have h0 : k - 1 < es.length := by omega
      have hw1 : IntKind.i64.wrap ((k : Int) - 1) = ((k - 1 : Nat) : Int) := by rw [wrap_i64 (by omega) (by omega)]; omega
      have hwk : IntKind.i64.wrap ((k : Int) + 1) = ((k + 1 : Nat) : Int) := i64_succ (by omega)
      have e1 := (fitP_idx hf k es[k] (List.getElem?_eq_getElem h1)).1
      have e0 := (fitP_idx hf (k - 1) es[k - 1] (List.getElem?_eq_getElem h0)).1
      have hmono : es[k - 1].term ≤ es[k].term := by
        have h' : fitP i t (es.take k ++ es.drop k) = true := by rw [List.take_append_drop]; exact hf
        rw [fitP_append, Bool.and_eq_true, List.drop_eq_getElem_cons h1] at h'
        have h2 := h'.2
        simp only [fitP, Bool.and_eq_true, decide_eq_true_eq] at h2
        have h3 : (endP i t (es.take k)).2 = es[k - 1].term := by
          rw [endP_last, List.getLast?_eq_getElem?, List.length_take, Nat.min_eq_left (by omega), List.getElem?_take, if_pos (by omega), List.getElem?_eq_getElem h0]
        omega
      have hlt : decide (((es[k].term : Nat) : Int) < ((es[k - 1].term : Nat) : Int)) = false := dF (by omega)
      have hwi : IntKind.u64.wrap (((es[k - 1].idx : Nat) : Int) + 1) = ((es[k - 1].idx + 1 : Nat) : Int) := u64_succ (by omega)
      have hne : (((es[k].idx : Nat) : Int) != ((es[k - 1].idx + 1 : Nat) : Int)) = false := by
        have : es[k].idx = es[k - 1].idx + 1 := by omega
        rw [this]; simp
      (repeat (first | (with_reducible apply bindP_intro; (focus (first | with_reducible rfl | (simp only [walkR, get0, getS, Nat.zero_add, Nat.add_zero, Bool.not_true, Bool.not_false, decide_true, decide_false, reduceIte, and_self, Bool.false_eq_true, hw.len, hd, hw.addr h1, hw.faddr h1, hw.term h1, hw1, hw.addr h0, hw.faddr h0, hw.term h0, hlt, hw.idx h1, hw.idx' h1, hw.idx h0, hw.idx' h0, hwi, hne, hwk] <;> with_reducible rfl)))) | (with_reducible apply bind2_intro; (focus (first | with_reducible rfl | (simp only [walkR, get0, getS, Nat.zero_add, Nat.add_zero, Bool.not_true, Bool.not_false, decide_true, decide_false, reduceIte, and_self, Bool.false_eq_true, hw.len, hd, hw.addr h1, hw.faddr h1, hw.term h1, hw1, hw.addr h0, hw.faddr h0, hw.term h0, hlt, hw.idx h1, hw.idx' h1, hw.idx h0, hw.idx' h0, hwi, hne, hwk] <;> with_reducible rfl)))) | with_reducible apply cond_t | with_reducible apply cond_f))
      exact rows_loop hw hf hlen hb hK j (k + 1) (by omega) (by omega) (by omega)
    · have hd : decide ((k : Int) < (es.length : Int)) = false := dF (by omega)
      (repeat (first | (with_reducible apply bindP_intro; (focus (first | with_reducible rfl | (simp only [walkR, get0, getS, Nat.zero_add, Nat.add_zero, Bool.not_true, Bool.not_false, decide_true, decide_false, reduceIte, and_self, Bool.false_eq_true, hw.len, hd] <;> with_reducible rfl)))) | (with_reducible apply bind2_intro; (focus (first | with_reducible rfl | (simp only [walkR, get0, getS, Nat.zero_add, Nat.add_zero, Bool.not_true, Bool.not_false, decide_true, decide_false, reduceIte, and_self, Bool.false_eq_true, hw.len, hd] <;> with_reducible rfl)))) | with_reducible apply cond_t | with_reducible apply cond_f))
      exact hK

theorem fresh_nil {L : Lg} {es : List Ent} (h : ∀ e ∈ es, skipP L e = true) : freshP L es = [] := by
  unfold freshP
  induction es with
  | nil => rfl
  | cons e es ih =>
    rw [List.dropWhile_cons, h e (by simp), if_pos rfl]
    exact ih (fun x hx => h x (by simp [hx]))

theorem eqv_bb (b : Bool) : (b == b) = true := by cases b <;> rfl

set_option maxHeartbeats 4000000 in
/-- What the law does with what has been counted on. -/
theorem put_rest {n lim : Nat} {H : Heap} {w : AVal} {bL bp : Nat} {v : AVal} {G : Lg} {a t : Nat} {P : List Ent} (hG : LogAt H bL v G) (fG : G.Fits) (hGl : G.es.length ≤ 40) (hGb : G.idx + 1000 < 9223372036854775808) (hlow : ∀ c, foot bL v c → lim ≤ c) (hl : lim ≤ H.next)
    (hP : Own H 13 w (P.map enc) bp) (okP : ∀ e ∈ P, e.ok) (hPl : P.length ≤ 40) (hwL : ∀ c, slBlk w = some c → ¬ foot bL v c) (hPn : ∀ k e, P[k]? = some e → e.idx = a + k + 1) (ha : G.idx ≤ a) (ha2 : a ≤ G.idx + 300) (ht : t < 18446744073709551616) :
    F4_j1 (Ahs.runT ap (n + 99)) lim (n + 99) (fun r H' => r = .bool true) (.int .u64 (t : Int)) (ptr bL) (.int .u64 (a : Int)) w H := by
  unfold F4_j1
  have hrm : room = 140737488355328 := rfl
  have hGall : fromP G 0 1048576 = G.es := fromP_all (by omega)
  refine bind2_of (log19 (n := n + 96) hG (by omega) (by omega) hl (i := 0) (most := 1048576) (by omega) (by omega)) ?_
  rintro w1 H1 ⟨⟨b1, o1⟩, k1, f1⟩
  rw [hGall] at o1
  have n1 := k1.next
  refine bind2_of (log22 (n := n + 96) (hG.keep k1) (by omega) (by omega)) ?_
  rintro _ H2 ⟨rfl, k2⟩
  have n2 := k2.next
  have hG2 := (hG.keep k1).keep k2
  have kk2 := k1.trans k2
  have hP2 : Es H2 w P := hP.sl.keep kk2
  have hwb : ∀ b, slBlk w = some b → ¬ b = bL := fun b hb e => hwL b hb (.inl e)
  (repeat (first | (with_reducible apply bindP_intro; (focus (first | with_reducible rfl | (simp only [walkR, get0, getS, Nat.zero_add, Nat.add_zero, Bool.not_true, Bool.not_false, decide_true, decide_false, reduceIte, and_self, Bool.false_eq_true] <;> with_reducible rfl)))) | (with_reducible apply bind2_intro; (focus (first | with_reducible rfl | (simp only [walkR, get0, getS, Nat.zero_add, Nat.add_zero, Bool.not_true, Bool.not_false, decide_true, decide_false, reduceIte, and_self, Bool.false_eq_true] <;> with_reducible rfl)))) | with_reducible apply cond_t | with_reducible apply cond_f))
  refine bind2_of (log20 (n := n + 94) (t := t) (i := a) hG2 (by omega) (by omega) hP2 okP (by omega) (by omega) (by omega) hlow hwb (by omega)) ?_
  rintro r3 H3 hp
  cases hj : joinsP G a t P with
  | false =>
    rw [hj] at hp
    simp only [Bool.false_eq_true, if_false] at hp
    obtain ⟨rfl, k3⟩ := hp
    have n3 := k3.next
    have hG3 := hG2.keep k3
    (repeat (first | (with_reducible apply bindP_intro; (focus (first | with_reducible rfl | (simp only [walkR, get0, getS, Nat.zero_add, Nat.add_zero, Bool.not_true, Bool.not_false, decide_true, decide_false, reduceIte, and_self, Bool.false_eq_true] <;> with_reducible rfl)))) | (with_reducible apply bind2_intro; (focus (first | with_reducible rfl | (simp only [walkR, get0, getS, Nat.zero_add, Nat.add_zero, Bool.not_true, Bool.not_false, decide_true, decide_false, reduceIte, and_self, Bool.false_eq_true] <;> with_reducible rfl)))) | with_reducible apply cond_t | with_reducible apply cond_f))
    refine bind2_of (log19 (n := n + 96) hG3 (by omega) (by omega) (by omega) (i := 0) (most := 1048576) (by omega) (by omega)) ?_
    rintro w4 H4 ⟨⟨b4, o4⟩, k4, f4⟩
    rw [hGall] at o4
    have n4 := k4.next
    have hG4 := hG3.keep k4
    refine bind2_of (log20 (n := n + 94) (t := t) (i := a) hG4 (by omega) (by omega) (hP2.keep (k3.trans k4)) okP (by omega) (by omega) (by omega) hlow hwb (by omega)) ?_
    rintro r5 H5 hp
    rw [hj] at hp
    simp only [Bool.false_eq_true, if_false] at hp
    obtain ⟨rfl, k5⟩ := hp
    have n5 := k5.next
    have hG5 := hG4.keep k5
    (repeat (first | (with_reducible apply bindP_intro; (focus (first | with_reducible rfl | (simp only [walkR, get0, getS, Nat.zero_add, Nat.add_zero, Bool.not_true, Bool.not_false, decide_true, decide_false, reduceIte, and_self, Bool.false_eq_true, eqvO_bool, show (false == false) = true from rfl] <;> with_reducible rfl)))) | (with_reducible apply bind2_intro; (focus (first | with_reducible rfl | (simp only [walkR, get0, getS, Nat.zero_add, Nat.add_zero, Bool.not_true, Bool.not_false, decide_true, decide_false, reduceIte, and_self, Bool.false_eq_true, eqvO_bool, show (false == false) = true from rfl] <;> with_reducible rfl)))) | with_reducible apply cond_t | with_reducible apply cond_f))
    refine bind2_of (log19 (n := n + 96) hG5 (by omega) (by omega) (by omega) (i := 0) (most := 1048576) (by omega) (by omega)) ?_
    rintro w6 H6 ⟨⟨b6, o6⟩, k6, f6⟩
    rw [hGall] at o6
    have n6 := k6.next
    have e4 : Es H6 w4 G.es := (o4.sl.keep k5).keep k6
    have hs : Ahs.runT ap (n + 99) lim (.fn 21) [w4, w6] H6 = _ := same21 (n := n + 98) e4 (o6.sl : Es H6 w6 _) (by omega) (by omega)
    (repeat (first | (with_reducible apply bindP_intro; (focus (first | with_reducible rfl | (simp only [walkR, get0, getS, Nat.zero_add, Nat.add_zero, Bool.not_true, Bool.not_false, decide_true, decide_false, reduceIte, and_self, Bool.false_eq_true, hs] <;> with_reducible rfl)))) | (with_reducible apply bind2_intro; (focus (first | with_reducible rfl | (simp only [walkR, get0, getS, Nat.zero_add, Nat.add_zero, Bool.not_true, Bool.not_false, decide_true, decide_false, reduceIte, and_self, Bool.false_eq_true, hs] <;> with_reducible rfl)))) | with_reducible apply cond_t | with_reducible apply cond_f))
    refine rows_loop (n := n + 99) e4 fG (by omega) (by omega) ?_ (n + 99) 1 (by omega) (by omega) (by omega)
    unfold F4_j0
    refine bind2_of (log22 (n := n + 96) (hG5.keep k6) (by omega) (by omega)) ?_
    rintro _ H7 ⟨rfl, k7⟩
    have e1 : Es H7 w1 G.es := ((((o1.sl.keep k2).keep k3).keep k4).keep k5).keep (k6.trans k7)
    have hs2 : Ahs.runT ap (n + 99) lim (.fn 21) [w1, w4] H7 = _ := same21 (n := n + 98) e1 (e4.keep k7) (by omega) (by omega)
    have hq : (((lastP G).1 : Int) == ((lastP G).1 : Int)) = true := by simp
    (repeat (first | (with_reducible apply bindP_intro; (focus (first | with_reducible rfl | (simp only [walkR, get0, getS, Nat.zero_add, Nat.add_zero, Bool.not_true, Bool.not_false, decide_true, decide_false, reduceIte, and_self, Bool.false_eq_true, hs2, hq, b16] <;> with_reducible rfl)))) | (with_reducible apply bind2_intro; (focus (first | with_reducible rfl | (simp only [walkR, get0, getS, Nat.zero_add, Nat.add_zero, Bool.not_true, Bool.not_false, decide_true, decide_false, reduceIte, and_self, Bool.false_eq_true, hs2, hq, b16] <;> with_reducible rfl)))) | with_reducible apply cond_t | with_reducible apply cond_f))
    rfl
  | true =>
    rw [hj] at hp
    simp only [if_true] at hp
    obtain ⟨f, v', bf, rfl, hG3, o5, fr3, hv', hf'⟩ := hp
    have hj' := hj
    unfold joinsP at hj'
    rw [if_neg (by omega), Bool.and_eq_true, decide_eq_true_eq] at hj'
    have pf := put_facts (L := G) (i := a) (t := t) (es := P) ha hj'.2 hj'.1
    have hG3' : LogAt H3 bL v' (putP G P) := hG3
    have hmax : max (a + P.length) G.idx = a + P.length := by omega
    rw [hmax]
    have hpz : putP G P = withP G (freshP G P) := rfl
    generalize hG' : putP G P = G' at pf hG3' hpz
    have n3 := fr3.next
    have hle := pf.le
    have hidx := pf.idx
    have fG' := pf.fits fG
    have hall' : fromP G' 0 1048576 = G'.es := fromP_all (by omega)
    have lowG' : ∀ c, foot bL v' c → lim ≤ c := by
      rintro c (rfl | hc)
      · exact hlow _ (.inl rfl)
      · rcases hv' c hc with h | h
        · exact hlow _ (.inr h)
        · omega
    (repeat (first | (with_reducible apply bindP_intro; (focus (first | with_reducible rfl | (simp only [walkR, get0, getS, Nat.zero_add, Nat.add_zero, Bool.not_true, Bool.not_false, decide_true, decide_false, reduceIte, and_self, Bool.false_eq_true] <;> with_reducible rfl)))) | (with_reducible apply bind2_intro; (focus (first | with_reducible rfl | (simp only [walkR, get0, getS, Nat.zero_add, Nat.add_zero, Bool.not_true, Bool.not_false, decide_true, decide_false, reduceIte, and_self, Bool.false_eq_true] <;> with_reducible rfl)))) | with_reducible apply cond_t | with_reducible apply cond_f))
    refine bind2_of (log19 (n := n + 96) hG3' (by omega) (by omega) (by omega) (i := 0) (most := 1048576) (by omega) (by omega)) ?_
    rintro w4 H4 ⟨⟨b4, o4⟩, k4, f4⟩
    rw [hall'] at o4
    have n4 := k4.next
    have hG4 := hG3'.keep k4
    have hP3 : Es H3 w P := Sl.frame fr3 hP2 (fun c hc hfc => hwL c hc hfc)
    have hwb2 : ∀ c, slBlk w = some c → ¬ foot bL v' c := by
      intro c hc hfc
      rcases hfc with rfl | hfc
      · exact hwL _ hc (.inl rfl)
      · rcases hv' c hfc with h | h
        · exact hwL c hc (.inr h)
        · have := own_lt hP c hc; omega
    refine bind2_of (log20 (n := n + 94) (t := t) (i := a) hG4 (by omega) (by omega) (hP3.keep k4) okP (by omega) (by omega) (by omega) lowG' hwb (by omega)) ?_
    rintro r5 H5 hp
    have hj2 : joinsP G' a t P = true := by
      unfold joinsP
      rw [hj'.1, pf.at', if_neg (by omega)]
      simp
    have hfr2 : freshP G' P = [] := fresh_nil (fun e he => by
      obtain ⟨k, hk, hke⟩ := List.getElem_of_mem he
      have h1 : P[k]? = some e := by rw [List.getElem?_eq_getElem hk, hke]
      have h2 := pf.get k e h1
      unfold skipP
      rw [hPn k e h1, h2]
      simp)
    rw [hj2] at hp
    simp only [if_true] at hp
    obtain ⟨f2, v2, bf2, rfl, hG5, o6, fr5, hv2, hf2⟩ := hp
    rw [hfr2] at hG5 o6
    have hG5' : LogAt H5 bL v2 G' := hG5
    have hmax2 : max (a + P.length) G'.idx = a + P.length := by omega
    rw [hmax2]
    have n5 := fr5.next
    have e4 : Es H5 w4 G'.es := Sl.frame fr5 o4.sl (fun c hc hfc => by
      have h1 := f4 c hc
      have h2 := hG3'.lt c hfc
      omega)
    have ef2 : alen false f2 = some (.int .i64 0) := by
      have := Sl.len o6.sl; simpa using this
    have hq2 : (((a + P.length : Nat) : Int) != ((a + P.length : Nat) : Int)) = false := by simp
    (repeat (first | (with_reducible apply bindP_intro; (focus (first | with_reducible rfl | (simp only [walkR, get0, getS, Nat.zero_add, Nat.add_zero, Bool.not_true, Bool.not_false, decide_true, decide_false, reduceIte, and_self, Bool.false_eq_true, eqvO_bool, show (true == true) = true from rfl, hq2, ef2] <;> with_reducible rfl)))) | (with_reducible apply bind2_intro; (focus (first | with_reducible rfl | (simp only [walkR, get0, getS, Nat.zero_add, Nat.add_zero, Bool.not_true, Bool.not_false, decide_true, decide_false, reduceIte, and_self, Bool.false_eq_true, eqvO_bool, show (true == true) = true from rfl, hq2, ef2] <;> with_reducible rfl)))) | with_reducible apply cond_t | with_reducible apply cond_f))
    refine bind2_of (log19 (n := n + 96) hG5' (by omega) (by omega) (by omega) (i := 0) (most := 1048576) (by omega) (by omega)) ?_
    rintro w6 H6 ⟨⟨b6, o7⟩, k6, f6⟩
    rw [hall'] at o7
    have n6 := k6.next
    have e46 := e4.keep k6
    have hs : Ahs.runT ap (n + 99) lim (.fn 21) [w4, w6] H6 = _ := same21 (n := n + 98) e46 (o7.sl : Es H6 w6 _) (by omega) (by omega)
    (repeat (first | (with_reducible apply bindP_intro; (focus (first | with_reducible rfl | (simp only [walkR, get0, getS, Nat.zero_add, Nat.add_zero, Bool.not_true, Bool.not_false, decide_true, decide_false, reduceIte, and_self, Bool.false_eq_true, hs] <;> with_reducible rfl)))) | (with_reducible apply bind2_intro; (focus (first | with_reducible rfl | (simp only [walkR, get0, getS, Nat.zero_add, Nat.add_zero, Bool.not_true, Bool.not_false, decide_true, decide_false, reduceIte, and_self, Bool.false_eq_true, hs] <;> with_reducible rfl)))) | with_reducible apply cond_t | with_reducible apply cond_f))
    refine rows_loop (n := n + 99) e46 fG' (by omega) (by omega) ?_ (n + 99) 1 (by omega) (by omega) (by omega)
    unfold F4_j0
    refine bind2_of (log22 (n := n + 96) (hG5'.keep k6) (by omega) (by omega)) ?_
    rintro _ H7 ⟨rfl, k7⟩
    have e47 := e46.keep k7
    -- what was fresh is still there
    have ef5 : Es H5 f (freshP G P) := Sl.frame fr5 (o5.sl.keep k4) (fun c hc hfc => by
      have h1 := hf' c hc
      rcases hfc with rfl | hfc
      · have := hG.lt _ (.inl rfl); omega
      · exact h1.2 hfc)
    have ef7 : Es H7 f (freshP G P) := (ef5.keep k6).keep k7
    have ew1 : Es H7 w1 G.es := by
      have x3 : Es H3 w1 G.es := Sl.frame fr3 (o1.sl.keep k2) (fun c hc hfc => by
        have h1 := f1 c hc
        have h2 := hG.lt c hfc
        omega)
      have x5 : Es H5 w1 G.es := Sl.frame fr5 (x3.keep k4) (fun c hc hfc => by
        have h1 := f1 c hc
        have h3 := own_lt o1 c hc
        rcases hfc with rfl | hfc
        · have := hG.lt _ (.inl rfl); omega
        · rcases hv' c hfc with h | h
          · have := hG.lt c (.inr h); omega
          · omega)
      exact (x5.keep k6).keep k7
    have hlast := fG'.last
    have hlastG := fG.last
    rcases pf.stays with hst | ⟨q, hq, hes', hne, hqb, hfq⟩
    · -- nothing was fresh
      have hfn : freshP G P = [] := by
        cases hfr : freshP G P with
        | nil => rfl
        | cons x xs =>
          exfalso
          have h1 := hpz
          rw [hfr, hst] at h1
          -- the log would have the entry, and it was to be skipped
          have hx : P = P.takeWhile (skipP G) ++ (x :: xs) := by
            have := (List.takeWhile_append_dropWhile (p := skipP G) (l := P)).symm
            rw [show P.dropWhile (skipP G) = x :: xs from hfr] at this
            exact this
          have hxk : P[(P.takeWhile (skipP G)).length]? = some x := by
            rw [hx, List.getElem?_append_right (by rw [← hx]; exact Nat.le_refl _)]
            rw [← hx]; simp
          have h2 := pf.get _ _ hxk
          rw [hst] at h2
          have h3 : skipP G x = false := by
            have := List.head?_dropWhile_not (skipP G) P
            rw [show P.dropWhile (skipP G) = x :: xs from hfr] at this
            simpa using this
          unfold skipP at h3
          rw [hPn _ _ hxk, h2] at h3
          simp at h3
      have ef0 : alen false f = some (.int .i64 0) := by
        have := ef7.len; rw [hfn] at this; exact this
      have hs2 : Ahs.runT ap (n + 99) lim (.fn 21) [w1, w4] H7 = _ := same21 (n := n + 98) ew1 e47 (by omega) (by omega)
      have hq3 : (((lastP G').1 : Int) == ((lastP G).1 : Int)) = true := by rw [hst]; simp
      have hse : decide (G.es = G'.es) = true := dT (by rw [hst])
      (repeat (first | (with_reducible apply bindP_intro; (focus (first | with_reducible rfl | (simp only [walkR, get0, getS, Nat.zero_add, Nat.add_zero, Bool.not_true, Bool.not_false, decide_true, decide_false, reduceIte, and_self, Bool.false_eq_true, ef0, show ((0 : Int) == 0) = true from rfl, hs2, hse, hq3, b16] <;> with_reducible rfl)))) | (with_reducible apply bind2_intro; (focus (first | with_reducible rfl | (simp only [walkR, get0, getS, Nat.zero_add, Nat.add_zero, Bool.not_true, Bool.not_false, decide_true, decide_false, reduceIte, and_self, Bool.false_eq_true, ef0, show ((0 : Int) == 0) = true from rfl, hs2, hse, hq3, b16] <;> with_reducible rfl)))) | with_reducible apply cond_t | with_reducible apply cond_f))
      rfl
    · have hlq : 0 < (P.drop q).length := by
        rcases Nat.eq_zero_or_pos (P.drop q).length with h | h
        · exact absurd (List.length_eq_zero_iff.1 h) hne
        · exact h
      have hdl : (P.drop q).length = P.length - q := by simp
      have hlen' : G'.es.length = a - G.idx + P.length := by
        rw [hes', List.length_append, List.length_take, hdl]; omega
      have efl : alen false f = some (.int .i64 ((P.length - q : Nat) : Int)) := by
        have := ef7.len; rw [hfq, hdl] at this; exact this
      have hz : (((P.length - q : Nat) : Int) == 0) = false := by rw [Bool.eq_false_iff]; simp; omega
      have hq3 : (((lastP G').1 : Int) == ((a + P.length : Nat) : Int)) = true := by simp; omega
      have hws : IntKind.i64.wrap ((G'.es.length : Int) - ((P.length - q : Nat) : Int)) = ((G'.es.length - (P.length - q) : Nat) : Int) := by rw [wrap_i64 (by omega) (by omega)]; omega
      obtain ⟨s1, x1, y1, _⟩ := Sl.slice e47 (lo := some (.int .i64 ((G'.es.length - (P.length - q) : Nat) : Int))) (hi := none) (l := G'.es.length - (P.length - q)) (k := G'.es.length) (natOf_nat .i64 _) (by simp [natOr]) (by omega) (by simp)
      have z1 : Es H7 s1 (P.drop q) := by
        have : ((G'.es.map enc).drop (G'.es.length - (P.length - q))).take (G'.es.length - (G'.es.length - (P.length - q))) = (P.drop q).map enc := by
          have h1 : G'.es.length - (P.length - q) = a - G.idx + q := by omega
          rw [h1, ← List.map_drop, hes', List.drop_left' (by rw [List.length_take]; omega), List.take_of_length_le (by simp; omega)]
        unfold Es
        rw [← this]; exact y1
      have hs2 : Ahs.runT ap (n + 99) lim (.fn 21) [f, s1] H7 = _ := same21 (n := n + 98) (hfq ▸ ef7) z1 (by omega) (by omega)
      (repeat (first | (with_reducible apply bindP_intro; (focus (first | with_reducible rfl | (simp only [walkR, get0, getS, Nat.zero_add, Nat.add_zero, Bool.not_true, Bool.not_false, decide_true, decide_false, reduceIte, and_self, Bool.false_eq_true, efl, hz, hq3, e47.len, hws, x1, hs2, b16] <;> with_reducible rfl)))) | (with_reducible apply bind2_intro; (focus (first | with_reducible rfl | (simp only [walkR, get0, getS, Nat.zero_add, Nat.add_zero, Bool.not_true, Bool.not_false, decide_true, decide_false, reduceIte, and_self, Bool.false_eq_true, efl, hz, hq3, e47.len, hws, x1, hs2, b16] <;> with_reducible rfl)))) | with_reducible apply cond_t | with_reducible apply cond_f))
      rfl

set_option maxHeartbeats 2000000 in
theorem puts {n lim : Nat} {H : Heap} {wl wm wr : AVal} {l m : List Ent} {rs : List Nat} (hl : Es H wl l) (hm : Es H wm m) (hr : Bs H wr rs) (okl : ∀ e ∈ l, e.ok) (okm : ∀ e ∈ m, e.ok) (hrl : rs.length ≤ 9223372036854775807)
    (hlim : lim ≤ H.next) {i t fm u : Nat} (hi0 : i < 18446744073709551616) (ht0 : t < 18446744073709551616) (hfm : fm < 256) (hu : u < 18446744073709551616) :
    ∃ r H', Ahs.runT ap (n + 100) lim (.fn 4) [.int .u64 (i : Int), .int .u64 (t : Int), wl, wm, wr, .int .u8 (fm : Int), .int .u64 (u : Int)] H = some (r, H') ∧ r = .bool true := by
  refine F4_run (n := n + 99) a4 ?_
  unfold F4
  have gl : Ahs.runT ap (n + 99) lim (.fn 15) [wl] H = _ := great15 (n := n + 98) (lim := lim) hl (by omega)
  have gm : Ahs.runT ap (n + 99) lim (.fn 15) [wm] H = _ := great15 (n := n + 98) (lim := lim) hm (by omega)
  cases hg1 : greatEs l with
  | true =>
    (repeat (first | (with_reducible apply bindP_intro; (focus (first | with_reducible rfl | (simp only [walkR, get0, getS, Nat.zero_add, Nat.add_zero, Bool.not_true, Bool.not_false, decide_true, decide_false, reduceIte, and_self, Bool.false_eq_true, gl, hg1, b16] <;> with_reducible rfl)))) | (with_reducible apply bind2_intro; (focus (first | with_reducible rfl | (simp only [walkR, get0, getS, Nat.zero_add, Nat.add_zero, Bool.not_true, Bool.not_false, decide_true, decide_false, reduceIte, and_self, Bool.false_eq_true, gl, hg1, b16] <;> with_reducible rfl)))) | with_reducible apply cond_t | with_reducible apply cond_f))
    rfl
  | false =>
  cases hg2 : greatEs m with
  | true =>
    (repeat (first | (with_reducible apply bindP_intro; (focus (first | with_reducible rfl | (simp only [walkR, get0, getS, Nat.zero_add, Nat.add_zero, Bool.not_true, Bool.not_false, decide_true, decide_false, reduceIte, and_self, Bool.false_eq_true, gl, hg1, gm, hg2, b16] <;> with_reducible rfl)))) | (with_reducible apply bind2_intro; (focus (first | with_reducible rfl | (simp only [walkR, get0, getS, Nat.zero_add, Nat.add_zero, Bool.not_true, Bool.not_false, decide_true, decide_false, reduceIte, and_self, Bool.false_eq_true, gl, hg1, gm, hg2, b16] <;> with_reducible rfl)))) | with_reducible apply cond_t | with_reducible apply cond_f))
    rfl
  | false =>
  by_cases hi : 1152921504606846976 < i
  · have hd : decide ((1152921504606846976 : Int) < (i : Int)) = true := dT (by omega)
    (repeat (first | (with_reducible apply bindP_intro; (focus (first | with_reducible rfl | (simp only [walkR, get0, getS, Nat.zero_add, Nat.add_zero, Bool.not_true, Bool.not_false, decide_true, decide_false, reduceIte, and_self, Bool.false_eq_true, gl, hg1, gm, hg2, hd, b16] <;> with_reducible rfl)))) | (with_reducible apply bind2_intro; (focus (first | with_reducible rfl | (simp only [walkR, get0, getS, Nat.zero_add, Nat.add_zero, Bool.not_true, Bool.not_false, decide_true, decide_false, reduceIte, and_self, Bool.false_eq_true, gl, hg1, gm, hg2, hd, b16] <;> with_reducible rfl)))) | with_reducible apply cond_t | with_reducible apply cond_f))
    rfl
  have hdi : decide ((1152921504606846976 : Int) < (i : Int)) = false := dF (by omega)
  by_cases ht : 1152921504606846976 < t
  · have hd : decide ((1152921504606846976 : Int) < (t : Int)) = true := dT (by omega)
    (repeat (first | (with_reducible apply bindP_intro; (focus (first | with_reducible rfl | (simp only [walkR, get0, getS, Nat.zero_add, Nat.add_zero, Bool.not_true, Bool.not_false, decide_true, decide_false, reduceIte, and_self, Bool.false_eq_true, gl, hg1, gm, hg2, hdi, hd, b16] <;> with_reducible rfl)))) | (with_reducible apply bind2_intro; (focus (first | with_reducible rfl | (simp only [walkR, get0, getS, Nat.zero_add, Nat.add_zero, Bool.not_true, Bool.not_false, decide_true, decide_false, reduceIte, and_self, Bool.false_eq_true, gl, hg1, gm, hg2, hdi, hd, b16] <;> with_reducible rfl)))) | with_reducible apply cond_t | with_reducible apply cond_f))
    rfl
  have hdt : decide ((1152921504606846976 : Int) < (t : Int)) = false := dF (by omega)
  have hll := greatEs_len hg1
  have hml := greatEs_len hg2
  (repeat (first | (with_reducible apply bindP_intro; (focus (first | with_reducible rfl | (simp only [walkR, get0, getS, Nat.zero_add, Nat.add_zero, Bool.not_true, Bool.not_false, decide_true, decide_false, reduceIte, and_self, Bool.false_eq_true, gl, hg1, gm, hg2, hdi, hdt] <;> with_reducible rfl)))) | (with_reducible apply bind2_intro; (focus (first | with_reducible rfl | (simp only [walkR, get0, getS, Nat.zero_add, Nat.add_zero, Bool.not_true, Bool.not_false, decide_true, decide_false, reduceIte, and_self, Bool.false_eq_true, gl, hg1, gm, hg2, hdi, hdt] <;> with_reducible rfl)))) | with_reducible apply cond_t | with_reducible apply cond_f))
  refine bind2_of (grown17 (n := n + 94) (m := 7) hl hr (by omega) hrl hlim (by omega) (by omega : i ≤ 1152921504606846976) (by omega : t ≤ 1152921504606846976)) ?_
  rintro _ H1 ⟨ba, va, rfl, hA, hba, hva, k1⟩
  have fA : (grownP rs 0 t ⟨i, t, 7, []⟩ l).Fits := grownP_fits rs l 0 t _ rfl
  obtain ⟨iA, _, _, nA⟩ := grownP_idx rs l 0 t ⟨i, t, 7, []⟩
  generalize grownP rs 0 t ⟨i, t, 7, []⟩ l = A at *
  have iA' : A.idx = i := iA
  have nA' : A.es.length = l.length := by rw [nA]; simp
  have n1 := k1.next
  have wfm : IntKind.u64.wrap (fm : Int) = (fm : Int) := wrap_u64 (by omega) (by omega)
  have wat : IntKind.u64.wrap ((i : Int) + (fm : Int)) = ((i + fm : Nat) : Int) := by rw [wrap_u64 (by omega) (by omega)]; omega
  have hf : fillV [] [] = some [] := rfl
  have kp : Keeps2 H1 (H1.push (.cells [])) := .push _ _
  have ho : Own (H1.push (.cells [])) 13 (.sl (some (H1.next, 0)) 0 (.ex 0)) [] H1.next := ⟨fun _ h => by simp at h, .inr (.inl ⟨0, [], rfl, rfl, cells_push_new H1 [], Nat.le_refl 0⟩)⟩
  have hrm : room = 140737488355328 := rfl
  obtain ⟨p, H2, bp, e1, e2, e3, e4, e5⟩ := own_append (lim := lim) (zero := z0) (bytes := 48) (ys := m.map enc) ho rfl (by omega) (Sl.source ((hm.keep k1).keep kp)) (enc_each m) (by simp; omega) (by simp; omega) (fun _ => by omega)
  have k2 : Keeps2 H1 H2 := Fram.keeps kp e3 (fun c hc e => by simp [slBlk] at e; omega)
  have n2 := k2.next
  have hpn : ∀ c, slBlk p = some c → H1.next ≤ c := by
    intro c hc
    have := e2.blk c hc
    subst this
    rcases e4 with ⟨rfl, _⟩ | e4
    · exact Nat.le_refl _
    · rw [Heap.next_push] at e4; omega
  (repeat (first | (with_reducible apply bindP_intro; (focus (first | with_reducible rfl | (simp only [walkR, get0, getS, Nat.zero_add, Nat.add_zero, Bool.not_true, Bool.not_false, decide_true, decide_false, reduceIte, and_self, Bool.false_eq_true, ptr_ne, wfm, wat, hf, e1] <;> with_reducible rfl)))) | (with_reducible apply bind2_intro; (focus (first | with_reducible rfl | (simp only [walkR, get0, getS, Nat.zero_add, Nat.add_zero, Bool.not_true, Bool.not_false, decide_true, decide_false, reduceIte, and_self, Bool.false_eq_true, ptr_ne, wfm, wat, hf, e1] <;> with_reducible rfl)))) | with_reducible apply cond_t | with_reducible apply cond_f))
  have own0 : Own H2 13 p ((curP (i + fm) 0 m).map enc) bp := by rw [curP_zero]; simpa using e2
  refine number_loop (n := n + 99) (H0 := H2) (bp := bp) (by omega) (fun c hc => by have := hpn c hc; omega) (by omega) (fun H' o' f' => ?_) (n + 99) 0 H2 own0 (.refl _ _) (by omega) (by omega)
  have n' := f'.next
  have hdis : ∀ c, foot ba va c → ¬ slBlk p = some c := fun c hc hp => by
    have h1 := hA.lt c hc
    have h2 := hpn c hp
    omega
  refine put_rest (n := n) (G := A) (P := curP (i + fm) m.length m) ((hA.keep k2).frame f' hdis) fA (by omega) (by omega) ?_ (by omega) o' (curP_ok okm (by omega)) (by rw [curP_len]; omega) (fun c hc hfc => hdis c hfc hc) ?_ (by omega) (by omega) hu
  · rintro c (rfl | hc)
    · omega
    · have := hva c hc; omega
  · intro k e hk
    have hkl : k < m.length := by
      rcases Nat.lt_or_ge k m.length with h | h
      · exact h
      · rw [List.getElem?_eq_none (by rw [curP_len]; exact h)] at hk; simp at hk
    rw [curP_get hkl, if_pos hkl] at hk
    simp at hk
    rw [← hk]

end Go.Proofs.Ytpefhojmfcenfaa.logs
