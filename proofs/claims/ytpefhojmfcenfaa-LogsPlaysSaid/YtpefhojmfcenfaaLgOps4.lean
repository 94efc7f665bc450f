/- Put. -/
import Derived.Test.YtpefhojmfcenfaaLgOps3
set_option maxRecDepth 100000
set_option linter.unusedVariables false
set_option linter.unusedSimpArgs false
namespace Go.Proofs.Ytpefhojmfcenfaa.logs
open Go.Ahs

section
variable {H : Heap} {bL : Nat} {v : AVal} {L : Lg}

def skipP (L : Lg) (e : Ent) : Bool := decide (e.idx ≤ L.idx) || decide (termP L e.idx = some e.term)
/-- What is fresh of entries that are put. -/
def freshP (L : Lg) (es : List Ent) : List Ent := es.dropWhile (skipP L)
/-- How the log stands then. -/
def withP (L : Lg) : List Ent → Lg
  | [] => L
  | f :: fs => { L with es := L.es.take (f.idx - L.idx - 1) ++ (f :: fs) }
def putP (L : Lg) (es : List Ent) : Lg := withP L (freshP L es)

/-- A slice cut at its length and its capacity, appended to. -/
theorem append_full {lim : Nat} {H : Heap} {b k : Nat} {xs ys : List (List AVal)} {x : AVal} (hc : H.cells b = some xs.flatten) (hx : ∀ y ∈ xs, y.length = 13 ∧ y.all (·.one) = true) (hk : k ≤ xs.length)
    (hsrc : source H 13 x = some (ys.length, ys.flatten)) (hy : ∀ y ∈ ys, y.length = 13 ∧ y.all (·.one) = true) (hne : ys ≠ []) (hroom : k + ys.length ≤ 1000000) :
    ∃ v' H' bv', aappend lim H z0 48 false (.sl (some (b, 0)) k (.ex k)) x = some (v', H') ∧ Own H' 13 v' (xs.take k ++ ys) bv' ∧ Keeps2 H H' ∧ H.next ≤ bv' := by
  have h0 : ¬ ys.length = 0 := fun e => hne (List.length_eq_zero_iff.1 e)
  have hrm : room = 140737488355328 := rfl
  have hsl : Sl H 13 (.sl (some (b, 0)) k (.ex k)) (xs.take k) := by
    have hfl := flatten_len (fun y hy' => (hx y hy').1)
    obtain ⟨v', h1, h2, _⟩ := Sl.slice (H := H) (sz := 13) (v := .sl (some (b, 0)) xs.length (.op 13)) (xs := xs) ⟨.inr ⟨b, 0, .op 13, _, rfl, rfl, hc, by rw [hfl]; omega, by rw [List.drop_zero, List.take_of_length_le (by omega)]⟩, fun y hy' => (hx y hy').1⟩
      (lo := none) (hi := some (.int .i64 (k : Int))) (l := 0) (k := k) rfl (natOf_nat .i64 k) (Nat.zero_le _) hk
    simp only [List.drop_zero, Nat.sub_zero] at h2
    rcases h2.at' with ⟨a, c, rfl, _, hnil⟩ | ⟨b', o, c, cs, rfl, _, q1, q2, q3⟩
    · have hk0 : k = 0 := by
        have := congrArg List.length hnil
        simp at this
        rcases this with h | h
        · exact h
        · rw [h] at hk; simpa using hk
      subst hk0
      rw [List.take_zero]
      exact Sl.zero H 13 _ (.ex 0) (Nat.le_refl 0)
    · have hlen : (xs.take k).length = k := by simp; omega
      refine ⟨.inr ⟨b, 0, .ex k, xs.flatten, by rw [hlen], by rw [hlen]; exact Nat.le_refl k, hc, by rw [hlen, hfl]; have := Nat.mul_le_mul_right 13 hk; omega, ?_⟩, h2.each⟩
      simp only [aslice, Option.isNone_some, Option.isSome_none, Bool.and_false, Bool.false_eq_true, if_false, Option.bind_eq_bind, natOr, natOf_nat, Option.bind_some] at h1
      simp at h1
      obtain ⟨_, h3, _⟩ := h1
      simp [shift] at h3
      obtain ⟨rfl, rfl⟩ := h3
      rw [hc] at q1
      simp at q1
      subst q1
      exact q3
  have holdl : ((xs.take k).flatten).length = k * 13 := by
    rw [flatten_len hsl.each]
    congr 1
    simp; omega
  have hone : ((xs.take k).flatten).all (·.one) = true := flatten_one fun y hy' => (hx y (List.mem_of_mem_take hy')).2
  have hcut : cut xs.flatten 0 (k * 13) = some (xs.take k).flatten := by
    have hfl := flatten_len (fun y hy' => (hx y hy').1)
    unfold cut
    rw [if_pos (by rw [hfl]; have := Nat.mul_le_mul_right 13 hk; omega), List.drop_zero]
    congr 1
    have e : xs.flatten = (xs.take k).flatten ++ (xs.drop k).flatten := by rw [← List.flatten_append, List.take_append_drop]
    rw [e, List.take_left' holdl]
  refine ⟨.sl (some (H.next, 0)) (k + ys.length) (.op 13), H.push (.cells ((xs.take k).flatten ++ ys.flatten)), H.next, ?_, ⟨?_, .inr (.inr ⟨?_, ?_⟩)⟩, .push _ _, Nat.le_refl _⟩
  · rw [aappend_eq (zero := z0) hsrc (flatten_one fun y hy' => (hy y hy').2) (by decide)]
    simp only [h0, if_false]
    rw [if_neg (by omega), hc]
    simp only [Option.bind_eq_bind, Option.bind_some]
    rw [if_neg (by omega)]
    rw [show cut xs.flatten 0 (k * z0.length) = some (xs.take k).flatten from hcut]
    simp only [Option.bind_some, Nat.le_refl, hone, and_self, if_true]
    rfl
  · intro y hy'
    rcases List.mem_append.1 hy' with hy' | hy'
    · exact hx y (List.mem_of_mem_take hy')
    · exact hy y hy'
  · rw [List.length_append, List.length_take, Nat.min_eq_left hk]
  · rw [List.flatten_append]; exact cells_push_new H _

/-- What Put has done behind what joins. -/
structure PutPost (H0 : Heap) (bL : Nat) (v : AVal) (L : Lg) (fr : List Ent) (m : Nat) (r : AVal) (H' : Heap) : Prop where
  ex : ∃ f v' bf, r = .tup [.bool true, .int .u64 (m : Int), f] ∧ LogAt H' bL v' (withP L fr) ∧ Own H' 13 f (fr.map enc) bf ∧ Fram (foot bL v) H0 H' ∧
    (∀ c, slBlk v' = some c → slBlk v = some c ∨ H0.next ≤ c) ∧ (∀ c, slBlk f = some c → H0.next ≤ c ∧ slBlk v' ≠ some c)

theorem put_tail {n lim : Nat} {K : AVal → Heap → Prop} {rec0 : AVal → AVal → AVal → AVal → AVal → AVal → AVal → Heap → Prop} {w s : AVal} {es base : List Ent} {k m : Nat} {S : Nat → Prop}
    (hc : H.cells bL = some [.bool true, .int .u64 (L.idx : Int), .int .u64 (L.term : Int), .int .u8 (L.mem : Int), s]) (hes : Es H w es) (hk : k < es.length) (hlen : es.length ≤ 1000) (hl : lim ≤ H.next) (hlb : lim ≤ bL) (hX : ∀ c, S c → c ≠ bL ∧ c < H.next)
    (happ : ∀ (H1 : Heap) (f : AVal) (ys : List (List AVal)), Keeps2 H H1 → ys ≠ [] → ys.length ≤ 1000 → source H1 13 f = some (ys.length, ys.flatten) → (∀ y ∈ ys, y.length = 13 ∧ y.all (·.one) = true) →
      ∃ v' H2 bv', aappend lim H1 z0 48 false s f = some (v', H2) ∧ Own H2 13 v' (base.map enc ++ ys) bv' ∧ Fram S H1 H2 ∧ H1.next ≤ bv')
    (hK : ∀ f v' bf H', LogAt H' bL v' { L with es := base ++ es.drop k } → Own H' 13 f ((es.drop k).map enc) bf → Fram (fun c => c = bL ∨ S c) H H' → (∀ c, slBlk v' = some c → H.next ≤ c) → (∀ c, slBlk f = some c → H.next ≤ c ∧ slBlk v' ≠ some c) →
      K (.tup [.bool true, .int .u64 (m : Int), f]) H') : F20_j1 (Ahs.runT ap (n + 1)) lim (n + 1) K rec0 (ptr bL) w (.int .u64 (m : Int)) (.int .i64 (k : Int)) H := by
  unfold F20_j1 F20_j0
  have hbL := Heap.cells_lt hc
  obtain ⟨w', a1, a2, a3⟩ := Sl.slice hes (lo := some (.int .i64 (k : Int))) (hi := none) (l := k) (k := es.length) (natOf_nat .i64 k) (by simp [natOr]) (by omega) (by simp)
  have hes' : Es H w' (es.drop k) := by
    unfold Es
    have : ((es.map enc).drop k).take (es.length - k) = (es.drop k).map enc := by
      rw [List.map_drop, List.take_of_length_le (by simp)]
    rw [← this]; exact a2
  have hdl : (es.drop k).length = es.length - k := by simp
  have hrm : room = 140737488355328 := rfl
  obtain ⟨f, H1, c1, ⟨bf, c2⟩, c3, c4⟩ := clone56 (n := n) (lim := lim) hes' (by omega) hl
  obtain ⟨v', H2, bv', d1, d2, d3, d4⟩ := happ H1 f ((es.drop k).map enc) c3 (by
    intro e
    have := congrArg List.length e
    simp at this; omega) (by simp; omega) c2.sl.source (enc_each _)
  have hcL1 := c3.cells hc
  have ho := d2.one
  have hcL2 := d3.cells hcL1 (fun e => (hX _ e).1 rfl)
  have s3 : astore lim H2 1 (.ptr (some (bL, 4))) v' = some (H2.set bL (.cells [.bool true, .int .u64 (L.idx : Int), .int .u64 (L.term : Int), .int .u8 (L.mem : Int), v'])) :=
    astore_cell hcL2 hlb ho.2 ho.1 (by show 4 < 5; omega) rfl
  (repeat (first | (with_reducible apply bindP_intro; (focus (first | with_reducible rfl | (simp only [walkR, get0, getS, Nat.zero_add, Nat.add_zero, Bool.not_true, Bool.not_false, decide_true, decide_false, reduceIte, and_self, Bool.false_eq_true, a1, c1, aload_one hcL1, d1, s3] <;> with_reducible rfl)))) | (with_reducible apply bind2_intro; (focus (first | with_reducible rfl | (simp only [walkR, get0, getS, Nat.zero_add, Nat.add_zero, Bool.not_true, Bool.not_false, decide_true, decide_false, reduceIte, and_self, Bool.false_eq_true, a1, c1, aload_one hcL1, d1, s3] <;> with_reducible rfl)))) | with_reducible apply cond_t | with_reducible apply cond_f))
  have hfx : ∀ c, slBlk f = some c → H.next ≤ c ∧ c < H1.next := by
    intro c hcf
    refine ⟨c4 c hcf, ?_⟩
    have := c2.blk c hcf
    subst this
    rcases c2.2 with ⟨rfl, _⟩ | ⟨o, cs, rfl, _, h3, _⟩ | ⟨h3, h4⟩
    · simp [slBlk] at hcf
    · exact Heap.cells_lt h3
    · exact Heap.cells_lt h4
  have own2 : Own (H2.set bL (.cells [.bool true, .int .u64 (L.idx : Int), .int .u64 (L.term : Int), .int .u8 (L.mem : Int), v'])) 13 v' (base.map enc ++ (es.drop k).map enc) bv' :=
    d2.frame (Fram.set (S := fun c => c = bL) rfl) (fun e => by have := c3.next; omega)
  refine hK f v' bf _ ⟨cells_set_same (by have := d3.next; have := c3.next; omega), bv', by simpa using own2, fun _ => by have := c3.next; omega⟩ ?_ ?_ (fun c hcv => by
    have := own2.blk c hcv
    have := c3.next; omega) (fun c hcf => ⟨(hfx c hcf).1, fun hcv => by
    have := own2.blk c hcv
    have := (hfx c hcf).2; omega⟩)
  · -- what is fresh stays
    rcases c2.2 with ⟨rfl, h2⟩ | ⟨o, cs, rfl, h2, h3, h4⟩ | ⟨rfl, h4⟩
    · exact ⟨c2.1, .inl ⟨rfl, h2⟩⟩
    · have hx := hfx bf rfl
      exact (c2.frame d3 (fun e => by have := (hX _ e).2; omega)).frame (Fram.set (S := fun c => c = bL) rfl) (fun e => by omega)
    · have hx := hfx bf rfl
      exact (c2.frame d3 (fun e => by have := (hX _ e).2; omega)).frame (Fram.set (S := fun c => c = bL) rfl) (fun e => by omega)
  · exact ((Fram.of c3).trans d3 (fun c _ e => .inr e)).set' (.inl (.inl rfl))

theorem put_loop {n lim : Nat} {K : AVal → Heap → Prop} {w : AVal} {es : List Ent} {m : Nat} (hb : L.idx + L.es.length < 9223372036854775808) (hLs : L.es.length ≤ 900000) (hok : ∀ e ∈ es, e.ok) (hlen : es.length ≤ 1000) (hlow : ∀ c, foot bL v c → lim ≤ c) (hwb : ∀ b, slBlk w = some b → ¬ b = bL) {H0 : Heap}
    (hK : ∀ r H', PutPost H0 bL v L (freshP L es) m r H' → K r H') :
    ∀ (j k : Nat) (H : Heap), LogAt H bL v L → Es H w es → Keeps2 H0 H → lim ≤ H.next → es.length < j + k → k ≤ es.length → freshP L es = freshP L (es.drop k) →
      F20_l0 (Ahs.runT ap (n + 3)) lim (n + 3) K j (ptr bL) w (.int .u64 (m : Int)) (.sl none 0 (.ex 0)) w (.int .i64 (es.length : Nat)) (.int .i64 (k : Int)) H
  | 0, k, H, _, _, _, _, hm, hle, _ => by exfalso; omega
  | j + 1, k, H, h, hes, k0, hl, hm, hle, hfr => by
    show F20_s0 _ _ _ _ (F20_l0 _ _ _ _ j) _ _ _ _ _ _ _ H
    unfold F20_s0
    by_cases hk : k < es.length
    · have hd : decide ((k : Int) < (es.length : Int)) = true := dT (by omega)
      have hw : IntKind.i64.wrap ((k : Int) + 1) = ((k + 1 : Nat) : Int) := i64_succ (by omega)
      have ok := hok es[k] (List.getElem_mem hk)
      have hi := ok.idx
      have kp := Keeps2.push H (.cells (enc es[k]))
      have h1 := h.keep kp
      rw [List.drop_eq_getElem_cons hk] at hfr
      unfold freshP at hfr
      rw [List.dropWhile_cons] at hfr
      have next : skipP L es[k] = true → F20_l0 (Ahs.runT ap (n + 3)) lim (n + 3) K j (ptr bL) w (.int .u64 (m : Int)) (.sl none 0 (.ex 0)) w (.int .i64 (es.length : Nat)) (.int .i64 ((k + 1 : Nat) : Int)) (H.push (.cells (enc es[k]))) := by
        intro hsk
        rw [hsk, if_pos rfl] at hfr
        exact put_loop hb hLs hok hlen hlow hwb hK j (k + 1) _ h1 (hes.keep kp) (k0.trans kp) (by rw [Heap.next_push]; omega) (by omega) (by omega) hfr
      by_cases g1 : es[k].idx ≤ L.idx
      · have hd1 : decide (((es[k].idx : Nat) : Int) ≤ (L.idx : Int)) = true := dT (by omega)
        (repeat (first | (with_reducible apply bindP_intro; (focus (first | with_reducible rfl | (simp only [walkR, get0, getS, Nat.zero_add, Nat.add_zero, Bool.not_true, Bool.not_false, decide_true, decide_false, reduceIte, and_self, Bool.false_eq_true, hd, hes.addr hk, hes.load hk, st13 hl, aload_new1, enc0, enc1, log18 h1 hb hi, optT, aload_one h1.cells, hd1, hw] <;> with_reducible rfl)))) | (with_reducible apply bind2_intro; (focus (first | with_reducible rfl | (simp only [walkR, get0, getS, Nat.zero_add, Nat.add_zero, Bool.not_true, Bool.not_false, decide_true, decide_false, reduceIte, and_self, Bool.false_eq_true, hd, hes.addr hk, hes.load hk, st13 hl, aload_new1, enc0, enc1, log18 h1 hb hi, optT, aload_one h1.cells, hd1, hw] <;> with_reducible rfl)))) | with_reducible apply cond_t | with_reducible apply cond_f))
        cases ht : termP L es[k].idx with
        | none =>
          (repeat (first | (with_reducible apply bindP_intro; (focus (first | with_reducible rfl | (simp only [walkR, get0, getS, Nat.zero_add, Nat.add_zero, Bool.not_true, Bool.not_false, decide_true, decide_false, reduceIte, and_self, Bool.false_eq_true, hd1, aload_new1, enc0, aload_one h1.cells, hw] <;> with_reducible rfl)))) | (with_reducible apply bind2_intro; (focus (first | with_reducible rfl | (simp only [walkR, get0, getS, Nat.zero_add, Nat.add_zero, Bool.not_true, Bool.not_false, decide_true, decide_false, reduceIte, and_self, Bool.false_eq_true, hd1, aload_new1, enc0, aload_one h1.cells, hw] <;> with_reducible rfl)))) | with_reducible apply cond_t | with_reducible apply cond_f))
          exact next (by unfold skipP; rw [dT g1]; rfl)
        | some t =>
          (repeat (first | (with_reducible apply bindP_intro; (focus (first | with_reducible rfl | (simp only [walkR, get0, getS, Nat.zero_add, Nat.add_zero, Bool.not_true, Bool.not_false, decide_true, decide_false, reduceIte, and_self, Bool.false_eq_true, hd1, aload_new1, enc0, aload_one h1.cells, hw] <;> with_reducible rfl)))) | (with_reducible apply bind2_intro; (focus (first | with_reducible rfl | (simp only [walkR, get0, getS, Nat.zero_add, Nat.add_zero, Bool.not_true, Bool.not_false, decide_true, decide_false, reduceIte, and_self, Bool.false_eq_true, hd1, aload_new1, enc0, aload_one h1.cells, hw] <;> with_reducible rfl)))) | with_reducible apply cond_t | with_reducible apply cond_f))
          exact next (by unfold skipP; rw [dT g1]; rfl)
      · have hd1 : decide (((es[k].idx : Nat) : Int) ≤ (L.idx : Int)) = false := dF (by omega)
        by_cases g2 : termP L es[k].idx = some es[k].term
        · have hq : (((es[k].term : Nat) : Int) == ((es[k].term : Nat) : Int)) = true := by simp
          (repeat (first | (with_reducible apply bindP_intro; (focus (first | with_reducible rfl | (simp only [walkR, get0, getS, Nat.zero_add, Nat.add_zero, Bool.not_true, Bool.not_false, decide_true, decide_false, reduceIte, and_self, Bool.false_eq_true, hd, hes.addr hk, hes.load hk, st13 hl, aload_new1, enc0, enc1, log18 h1 hb hi, g2, optT, aload_one h1.cells, hd1, hq, hw] <;> with_reducible rfl)))) | (with_reducible apply bind2_intro; (focus (first | with_reducible rfl | (simp only [walkR, get0, getS, Nat.zero_add, Nat.add_zero, Bool.not_true, Bool.not_false, decide_true, decide_false, reduceIte, and_self, Bool.false_eq_true, hd, hes.addr hk, hes.load hk, st13 hl, aload_new1, enc0, enc1, log18 h1 hb hi, g2, optT, aload_one h1.cells, hd1, hq, hw] <;> with_reducible rfl)))) | with_reducible apply cond_t | with_reducible apply cond_f))
          exact next (by unfold skipP; rw [dF g1, dT g2]; rfl)
        · have hsk : skipP L es[k] = false := by unfold skipP; rw [dF g1, dF g2]; rfl
          rw [hsk, if_neg (by simp)] at hfr
          have hfr' : freshP L es = es.drop k := by unfold freshP; rw [hfr, List.drop_eq_getElem_cons hk]
          -- the end: what stands behind is fresh
          have fin : ∀ (H1 : Heap) (s : AVal) (base : List Ent), base = L.es.take (es[k].idx - L.idx - 1) → H1.cells bL = some [.bool true, .int .u64 (L.idx : Int), .int .u64 (L.term : Int), .int .u8 (L.mem : Int), s] → Es H1 w es → Fram (foot bL v) H H1 → lim ≤ H1.next →
              (∀ (H2 : Heap) (f : AVal) (ys : List (List AVal)), Keeps2 H1 H2 → ys ≠ [] → ys.length ≤ 1000 → source H2 13 f = some (ys.length, ys.flatten) → (∀ y ∈ ys, y.length = 13 ∧ y.all (·.one) = true) →
                ∃ v' H3 bv', aappend lim H2 z0 48 false s f = some (v', H3) ∧ Own H3 13 v' (base.map enc ++ ys) bv' ∧ Fram (fun c => slBlk v = some c) H2 H3 ∧ H2.next ≤ bv') →
              F20_j1 (Ahs.runT ap (n + 3)) lim (n + 3) K (F20_l0 (Ahs.runT ap (n + 3)) lim (n + 3) K j) (ptr bL) w (.int .u64 (m : Int)) (.int .i64 (k : Int)) H1 := by
            intro H1 s base hbase hc1 hes1 f1 hl1 happ
            have hx : ∀ c, slBlk v = some c → c ≠ bL ∧ c < H1.next := by
              intro c hc
              obtain ⟨bv, o1, o2⟩ := h.own
              have e1 := o1.blk c hc
              have := h.lt c (.inr hc)
              have := f1.next
              exact ⟨fun e0 => o2 (by rw [← e1]; exact hc) (by rw [← e1]; exact e0), by omega⟩
            refine put_tail (n := n + 2) (base := base) hc1 hes1 hk hlen hl1 (hlow _ (.inl rfl)) hx happ ?_
            intro f v' bf H' p1 p2 p3 p4 p5
            refine hK _ H' ⟨f, v', bf, rfl, ?_, by rw [hfr']; exact p2, ?_, fun c hc => .inr (by have := p4 c hc; have := f1.next; have := k0.next; omega), fun c hc => ⟨by have := (p5 c hc).1; have := f1.next; have := k0.next; omega, (p5 c hc).2⟩⟩
            · rw [hfr', List.drop_eq_getElem_cons hk]
              rw [hbase, List.drop_eq_getElem_cons hk] at p1
              exact p1
            · exact ((Fram.of k0).trans f1 (fun c _ e => e)).trans p3 (fun c _ e => e)
          obtain ⟨bv, o1, o2⟩ := h.own
          by_cases g3 : L.idx < es[k].idx ∧ es[k].idx ≤ L.idx + L.es.length
          · have hkk : es[k].idx - L.idx - 1 < L.es.length := by omega
            generalize hq : es[k].idx - L.idx - 1 = q at hkk fin
            have hv : v = .sl (some (bv, 0)) (L.es.map enc).length (.op 13) ∧ H.cells bv = some (L.es.map enc).flatten := by
              rcases o1.2 with ⟨_, h2⟩ | ⟨o, cs, _, h2, _⟩ | ⟨h2, h3⟩
              · have := congrArg List.length h2
                simp at this; rw [this] at hkk; simp at hkk
              · have := congrArg List.length h2
                simp at this; rw [this] at hkk; simp at hkk
              · exact ⟨h2, h3⟩
            have hs : aslice 13 v none (some (.int .i64 (q : Int))) (some (.int .i64 (q : Int))) = some (.sl (some (bv, 0)) q (.ex q)) := by
              rw [hv.1]
              simp only [aslice, Option.isNone_some, Option.isSome_some, Bool.and_true, Bool.false_and, Bool.false_eq_true, if_false, Option.bind_eq_bind, natOr, natOf_nat, Option.bind_some]
              rw [if_pos ⟨by simp; omega, Nat.le_refl _, Nat.zero_le _⟩]
              simp [shift]
            have hne : bv ≠ bL := o2 (by rw [hv.1]; rfl)
            have hst : astore lim (H.push (.cells (enc es[k]))) 1 (.ptr (some (bL, 4))) (.sl (some (bv, 0)) q (.ex q)) = some ((H.push (.cells (enc es[k]))).set bL (.cells [.bool true, .int .u64 (L.idx : Int), .int .u64 (L.term : Int), .int .u8 (L.mem : Int), .sl (some (bv, 0)) q (.ex q)])) :=
              astore_cell h1.cells (hlow _ (.inl rfl)) rfl rfl (by show 4 < 5; omega) rfl
            have hbL := Heap.cells_lt h1.cells
            have go := fin ((H.push (.cells (enc es[k]))).set bL (.cells [.bool true, .int .u64 (L.idx : Int), .int .u64 (L.term : Int), .int .u8 (L.mem : Int), .sl (some (bv, 0)) q (.ex q)])) (.sl (some (bv, 0)) q (.ex q)) (L.es.take q) rfl (cells_set_same hbL) (by
                have : Fram (fun c => c = bL) H ((H.push (.cells (enc es[k]))).set bL (.cells [.bool true, .int .u64 (L.idx : Int), .int .u64 (L.term : Int), .int .u8 (L.mem : Int), .sl (some (bv, 0)) q (.ex q)])) := (Fram.of kp).set' (.inl rfl)
                exact Sl.frame this hes hwb)
              ((Fram.of kp).set' (.inl (.inl rfl))) (by rw [Heap.next_set, Heap.next_push]; omega) (by
                intro H2 f ys k2 y1 y2 y3 y4
                have hc2 : H2.cells bv = some (L.es.map enc).flatten := k2.cells (cells_set_other (kp.cells hv.2) hne)
                obtain ⟨v', H3, bv', q1, q2, q3, q4⟩ := append_full (lim := lim) hc2 (enc_each L.es) (k := q) (by simp; omega) y3 y4 y1 (by omega)
                exact ⟨v', H3, bv', q1, by rw [List.map_take]; exact q2, .of q3, q4⟩)
            cases ht : termP L es[k].idx with
            | none =>
              (repeat (first | (with_reducible apply bindP_intro; (focus (first | with_reducible rfl | (simp only [walkR, get0, getS, Nat.zero_add, Nat.add_zero, Bool.not_true, Bool.not_false, decide_true, decide_false, reduceIte, and_self, Bool.false_eq_true, hd, hes.addr hk, hes.load hk, st13 hl, aload_new1, enc0, enc1, log18 h1 hb hi, ht, optT, aload_one h1.cells, hd1, log54 h1 hb hi, g3, hq, hs, hst] <;> with_reducible rfl)))) | (with_reducible apply bind2_intro; (focus (first | with_reducible rfl | (simp only [walkR, get0, getS, Nat.zero_add, Nat.add_zero, Bool.not_true, Bool.not_false, decide_true, decide_false, reduceIte, and_self, Bool.false_eq_true, hd, hes.addr hk, hes.load hk, st13 hl, aload_new1, enc0, enc1, log18 h1 hb hi, ht, optT, aload_one h1.cells, hd1, log54 h1 hb hi, g3, hq, hs, hst] <;> with_reducible rfl)))) | with_reducible apply cond_t | with_reducible apply cond_f))
              exact go
            | some t =>
              have hqt : ((t : Int) == ((es[k].term : Nat) : Int)) = false := by
                rw [Bool.eq_false_iff]; simp
                intro e; apply g2; rw [ht]; congr 1; omega
              (repeat (first | (with_reducible apply bindP_intro; (focus (first | with_reducible rfl | (simp only [walkR, get0, getS, Nat.zero_add, Nat.add_zero, Bool.not_true, Bool.not_false, decide_true, decide_false, reduceIte, and_self, Bool.false_eq_true, hd, hes.addr hk, hes.load hk, st13 hl, aload_new1, enc0, enc1, log18 h1 hb hi, ht, optT, aload_one h1.cells, hd1, hqt, log54 h1 hb hi, g3, hq, hs, hst] <;> with_reducible rfl)))) | (with_reducible apply bind2_intro; (focus (first | with_reducible rfl | (simp only [walkR, get0, getS, Nat.zero_add, Nat.add_zero, Bool.not_true, Bool.not_false, decide_true, decide_false, reduceIte, and_self, Bool.false_eq_true, hd, hes.addr hk, hes.load hk, st13 hl, aload_new1, enc0, enc1, log18 h1 hb hi, ht, optT, aload_one h1.cells, hd1, hqt, log54 h1 hb hi, g3, hq, hs, hst] <;> with_reducible rfl)))) | with_reducible apply cond_t | with_reducible apply cond_f))
              exact go
          · have go := fin (H.push (.cells (enc es[k]))) v L.es (by rw [List.take_of_length_le (by omega)]) h1.cells (hes.keep kp) (.of kp) (by rw [Heap.next_push]; omega) (by
                intro H2 f ys k2 y1 y2 y3 y4
                have hrm : room = 140737488355328 := rfl
                obtain ⟨b2, o3, o4⟩ := ((h1.keep k2).own)
                obtain ⟨v', H3, bv', q1, q2, q3, q4, q5⟩ := own_append (lim := lim) (zero := z0) (bytes := 48) o3 rfl (by omega) y3 y4 (by simp; omega) (by simp; omega) (fun hb => hlow _ (.inr hb))
                exact ⟨v', H3, bv', q1, q2, q3, by
                  rcases q4 with ⟨_, h | h⟩ | h
                  · exact absurd h y1
                  · exact h.elim
                  · exact h⟩)
            cases ht : termP L es[k].idx with
            | none =>
              (repeat (first | (with_reducible apply bindP_intro; (focus (first | with_reducible rfl | (simp only [walkR, get0, getS, Nat.zero_add, Nat.add_zero, Bool.not_true, Bool.not_false, decide_true, decide_false, reduceIte, and_self, Bool.false_eq_true, hd, hes.addr hk, hes.load hk, st13 hl, aload_new1, enc0, enc1, log18 h1 hb hi, ht, optT, aload_one h1.cells, hd1, log54 h1 hb hi, g3] <;> with_reducible rfl)))) | (with_reducible apply bind2_intro; (focus (first | with_reducible rfl | (simp only [walkR, get0, getS, Nat.zero_add, Nat.add_zero, Bool.not_true, Bool.not_false, decide_true, decide_false, reduceIte, and_self, Bool.false_eq_true, hd, hes.addr hk, hes.load hk, st13 hl, aload_new1, enc0, enc1, log18 h1 hb hi, ht, optT, aload_one h1.cells, hd1, log54 h1 hb hi, g3] <;> with_reducible rfl)))) | with_reducible apply cond_t | with_reducible apply cond_f))
              exact go
            | some t =>
              have hqt : ((t : Int) == ((es[k].term : Nat) : Int)) = false := by
                rw [Bool.eq_false_iff]; simp
                intro e; apply g2; rw [ht]; congr 1; omega
              (repeat (first | (with_reducible apply bindP_intro; (focus (first | with_reducible rfl | (simp only [walkR, get0, getS, Nat.zero_add, Nat.add_zero, Bool.not_true, Bool.not_false, decide_true, decide_false, reduceIte, and_self, Bool.false_eq_true, hd, hes.addr hk, hes.load hk, st13 hl, aload_new1, enc0, enc1, log18 h1 hb hi, ht, optT, aload_one h1.cells, hd1, hqt, log54 h1 hb hi, g3] <;> with_reducible rfl)))) | (with_reducible apply bind2_intro; (focus (first | with_reducible rfl | (simp only [walkR, get0, getS, Nat.zero_add, Nat.add_zero, Bool.not_true, Bool.not_false, decide_true, decide_false, reduceIte, and_self, Bool.false_eq_true, hd, hes.addr hk, hes.load hk, st13 hl, aload_new1, enc0, enc1, log18 h1 hb hi, ht, optT, aload_one h1.cells, hd1, hqt, log54 h1 hb hi, g3] <;> with_reducible rfl)))) | with_reducible apply cond_t | with_reducible apply cond_f))
              exact go
    · have hd : decide ((k : Int) < (es.length : Int)) = false := dF (by omega)
      (repeat (first | (with_reducible apply bindP_intro; (focus (first | with_reducible rfl | (simp only [walkR, get0, getS, Nat.zero_add, Nat.add_zero, Bool.not_true, Bool.not_false, decide_true, decide_false, reduceIte, and_self, Bool.false_eq_true, hd] <;> with_reducible rfl)))) | (with_reducible apply bind2_intro; (focus (first | with_reducible rfl | (simp only [walkR, get0, getS, Nat.zero_add, Nat.add_zero, Bool.not_true, Bool.not_false, decide_true, decide_false, reduceIte, and_self, Bool.false_eq_true, hd] <;> with_reducible rfl)))) | with_reducible apply cond_t | with_reducible apply cond_f))
      unfold F20_j0
      refine hK _ H ⟨.sl none 0 (.ex 0), v, 0, rfl, ?_, ?_, .of k0, fun c hc => .inl hc, fun c hc => by simp [slBlk] at hc⟩
      · rw [hfr, List.drop_eq_nil_of_le (by omega)]; exact h
      · rw [hfr, List.drop_eq_nil_of_le (by omega)]; exact ⟨fun _ h => by simp [freshP] at h, .inl ⟨rfl, rfl⟩⟩

theorem log20 {n lim : Nat} (h : LogAt H bL v L) (hb : L.idx + L.es.length < 9223372036854775808) (hLs : L.es.length ≤ 900000) {w : AVal} {es : List Ent} (hes : Es H w es) (hok : ∀ e ∈ es, e.ok) (hlen : es.length ≤ 1000) (hn : es.length < n) (hl : lim ≤ H.next)
    (hlow : ∀ c, foot bL v c → lim ≤ c) (hwb : ∀ b, slBlk w = some b → ¬ b = bL) {i t : Nat} (hi : i < 9223372036854775808) :
    ∃ r H', Ahs.runT ap (n + 5) lim (.fn 20) [ptr bL, .int .u64 (i : Int), .int .u64 (t : Int), w] H = some (r, H') ∧
      (if joinsP L i t es = true then PutPost H bL v L (freshP L es) (max (i + es.length) L.idx) r H' else r = .tup [.bool false, .int .u64 0, .sl none 0 (.ex 0)] ∧ Keeps2 H H') := by
  refine F20_run a20 ?_
  unfold F20
  refine bind2_of (log57 (n := n) h hb hes hok hl (by omega) (by omega) (t := t) (by omega)) ?_
  rintro _ H1 ⟨rfl, k1⟩
  have h1 := h.keep k1
  have hes1 := hes.keep k1
  cases hj : joinsP L i t es with
  | false =>
    (repeat (first | (with_reducible apply bindP_intro; (focus (first | with_reducible rfl | (simp only [walkR, get0, getS, Nat.zero_add, Nat.add_zero, Bool.not_true, Bool.not_false, decide_true, decide_false, reduceIte, and_self, Bool.false_eq_true] <;> with_reducible rfl)))) | (with_reducible apply bind2_intro; (focus (first | with_reducible rfl | (simp only [walkR, get0, getS, Nat.zero_add, Nat.add_zero, Bool.not_true, Bool.not_false, decide_true, decide_false, reduceIte, and_self, Bool.false_eq_true] <;> with_reducible rfl)))) | with_reducible apply cond_t | with_reducible apply cond_f))
    simp only [Bool.false_eq_true, if_false, true_and]
    exact k1
  | true =>
    have hwl : IntKind.u64.wrap (es.length : Int) = (es.length : Int) := wrap_u64 (by omega) (by omega)
    have hw : IntKind.u64.wrap ((i : Int) + (es.length : Int)) = ((i + es.length : Nat) : Int) := by rw [wrap_u64 (by omega) (by omega)]; omega
    (repeat (first | (with_reducible apply bindP_intro; (focus (first | with_reducible rfl | (simp only [walkR, get0, getS, Nat.zero_add, Nat.add_zero, Bool.not_true, Bool.not_false, decide_true, decide_false, reduceIte, and_self, Bool.false_eq_true, hes1.len, hwl, hw, aload_one h1.cells, max_nat] <;> with_reducible rfl)))) | (with_reducible apply bind2_intro; (focus (first | with_reducible rfl | (simp only [walkR, get0, getS, Nat.zero_add, Nat.add_zero, Bool.not_true, Bool.not_false, decide_true, decide_false, reduceIte, and_self, Bool.false_eq_true, hes1.len, hwl, hw, aload_one h1.cells, max_nat] <;> with_reducible rfl)))) | with_reducible apply cond_t | with_reducible apply cond_f))
    refine put_loop (n := n + 1) hb hLs hok hlen hlow hwb (H0 := H) (fun r H' hp => ?_) (n + 4) 0 H1 h1 hes1 k1 (by have := k1.next; omega) (by omega) (by omega) (by rw [List.drop_zero])
    simp only [if_true]
    exact hp

end
end Go.Proofs.Ytpefhojmfcenfaa.logs
