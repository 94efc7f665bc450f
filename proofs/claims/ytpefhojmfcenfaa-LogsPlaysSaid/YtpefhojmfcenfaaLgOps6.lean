/- What fits; grown. -/
import Derived.Test.YtpefhojmfcenfaaLgOps5
set_option maxRecDepth 100000
set_option linter.unusedVariables false
set_option linter.unusedSimpArgs false
namespace Go.Proofs.Ytpefhojmfcenfaa.logs
open Go.Ahs

/-! ## Plain facts -/

/-- Index and term of the last of entries, or those ahead. -/
def endP : Nat → Nat → List Ent → Nat × Nat
  | i, t, [] => (i, t)
  | _, _, e :: es => endP e.idx e.term es

theorem endP_append : ∀ (xs ys : List Ent) (i t : Nat), endP i t (xs ++ ys) = endP (endP i t xs).1 (endP i t xs).2 ys
  | [], ys, i, t => rfl
  | x :: xs, ys, i, t => endP_append xs ys x.idx x.term

theorem fitP_append : ∀ (xs ys : List Ent) (i t : Nat), fitP i t (xs ++ ys) = (fitP i t xs && fitP (endP i t xs).1 (endP i t xs).2 ys)
  | [], ys, i, t => by simp [fitP, endP]
  | x :: xs, ys, i, t => by
    simp only [List.cons_append, fitP, endP, fitP_append xs ys x.idx x.term, Bool.and_assoc]

theorem fitP_idx : ∀ {es : List Ent} {i t : Nat}, fitP i t es = true → ∀ (k : Nat) (e : Ent), es[k]? = some e → e.idx = i + k + 1 ∧ t ≤ e.term
  | [], _, _, _, k, e, h => by simp at h
  | x :: xs, i, t, hf, k, e, h => by
    simp only [fitP, Bool.and_eq_true, decide_eq_true_eq] at hf
    cases k with
    | zero => simp at h; subst h; exact ⟨by omega, hf.2.1⟩
    | succ k =>
      simp at h
      have := fitP_idx hf.2.2 k e h
      omega

theorem fitP_end : ∀ {es : List Ent} {i t : Nat}, fitP i t es = true → (endP i t es).1 = i + es.length ∧ t ≤ (endP i t es).2
  | [], i, t, _ => ⟨rfl, Nat.le_refl _⟩
  | x :: xs, i, t, hf => by
    simp only [fitP, Bool.and_eq_true, decide_eq_true_eq] at hf
    have := fitP_end hf.2.2
    simp only [endP, List.length_cons]
    omega

theorem endP_last : ∀ (es : List Ent) (i t : Nat), endP i t es = (match es.getLast? with | none => (i, t) | some e => (e.idx, e.term))
  | [], i, t => rfl
  | [x], i, t => rfl
  | x :: y :: ys, i, t => by
    have := endP_last (y :: ys) x.idx x.term
    simp only [endP] at this ⊢
    rw [this, List.getLast?_cons_cons]
    cases hg : (y :: ys).getLast? with
    | none => simp at hg
    | some e => rfl

theorem lastP_end (L : Lg) : lastP L = endP L.idx L.term L.es := (endP_last L.es L.idx L.term).symm

/-- A log whose entries fit. -/
def Lg.Fits (L : Lg) : Prop := fitP L.idx L.term L.es = true

theorem Lg.Fits.last {L : Lg} (h : L.Fits) : (lastP L).1 = L.idx + L.es.length ∧ L.term ≤ (lastP L).2 := by
  rw [lastP_end]; exact fitP_end h

theorem Lg.Fits.add {L : Lg} (h : L.Fits) (e : Ent) : (addP L e).Fits := by
  unfold Lg.Fits addP
  simp only [fitP_append, ← lastP_end]
  rw [show fitP L.idx L.term L.es = true from h, Bool.true_and]
  have := Nat.le_max_right e.term (lastP L).2
  simp only [fitP, addE, Bool.and_true, Bool.and_eq_true, decide_eq_true_eq]
  exact ⟨trivial, dT this⟩

theorem Lg.Fits.at' {L : Lg} (h : L.Fits) {k : Nat} (hk : k < L.es.length) : L.es[k].idx = L.idx + k + 1 := (fitP_idx h k _ (List.getElem?_eq_getElem hk)).1

/-! ## grown -/

def riseAt (rs : List Nat) (i : Nat) : Nat := (rs[i]?.getD 0) % 3

def grownP (rs : List Nat) : Nat → Nat → Lg → List Ent → Lg
  | _, _, L, [] => L
  | i, t, L, x :: xs => grownP rs (i + 1) (t + riseAt rs i) (addP L { x with term := t + riseAt rs i }) xs

theorem grownP_fits (rs : List Nat) : ∀ (xs : List Ent) (i t : Nat) (L : Lg), L.Fits → (grownP rs i t L xs).Fits
  | [], _, _, L, h => h
  | x :: xs, i, t, L, h => grownP_fits rs xs _ _ _ (h.add _)
theorem grownP_idx (rs : List Nat) : ∀ (xs : List Ent) (i t : Nat) (L : Lg), (grownP rs i t L xs).idx = L.idx ∧ (grownP rs i t L xs).term = L.term ∧ (grownP rs i t L xs).mem = L.mem ∧ (grownP rs i t L xs).es.length = L.es.length + xs.length
  | [], _, _, L => ⟨rfl, rfl, rfl, rfl⟩
  | x :: xs, i, t, L => by
    have := grownP_idx rs xs (i + 1) (t + riseAt rs i) (addP L { x with term := t + riseAt rs i })
    refine ⟨this.1, this.2.1, this.2.2.1, ?_⟩
    show (grownP rs (i + 1) (t + riseAt rs i) (addP L { x with term := t + riseAt rs i }) xs).es.length = _
    rw [this.2.2.2]
    simp [addP]; omega

/-- Each term is small. -/
theorem grownP_ok (rs : List Nat) : ∀ (xs : List Ent) (i t : Nat) (L : Lg) (T : Nat), L.Fits → (∀ e ∈ L.es, e.ok) → (∀ e ∈ xs, e.ok) → (∀ e ∈ L.es, e.term ≤ T) → L.term ≤ T → t ≤ T → T + 2 * xs.length < 18446744073709551616 → L.idx + L.es.length + xs.length < 18446744073709551616 →
    ∀ e ∈ (grownP rs i t L xs).es, e.ok
  | [], _, _, L, T, _, h, _, _, _, _, _, _ => h
  | x :: xs, i, t, L, T, hf, h, hx, hT, hLT, ht, hb, hi => by
    have hr : riseAt rs i ≤ 2 := by unfold riseAt; omega
    have hlast := hf.last
    have hlt : (lastP L).2 ≤ T := by
      rw [lastP_end, endP_last]
      cases hg : L.es.getLast? with
      | none => exact hLT
      | some e => exact hT e (List.mem_of_getLast? hg)
    simp only [List.length_cons] at hb hi
    have hxo := hx x (by simp)
    have hnew : (addE L { x with term := t + riseAt rs i }).term ≤ T + 2 := by
      show max (t + riseAt rs i) (lastP L).2 ≤ T + 2
      omega
    have hok : (addE L { x with term := t + riseAt rs i }).ok := ⟨by show (lastP L).1 + 1 < _; omega, by omega, hxo.kind⟩
    refine grownP_ok rs xs (i + 1) (t + riseAt rs i) _ (T + 2) (hf.add _) ?_ (fun e he => hx e (by simp [he])) ?_ (by show L.term ≤ T + 2; omega) (by omega) (by omega) (by
      show L.idx + (L.es ++ [_]).length + xs.length < _
      simp; omega)
    · intro e he
      rcases List.mem_append.1 he with he | he
      · exact h e he
      · simp at he; subst he; exact hok
    · intro e he
      rcases List.mem_append.1 he with he | he
      · have := hT e he; omega
      · simp at he; subst he; exact hnew

/-- A row of bytes. -/
def Bs (H : Heap) (v : AVal) (rs : List Nat) : Prop := Sl H 1 v (rs.map fun r : Nat => [AVal.int .u8 (r : Int)])

theorem Bs.len {H : Heap} {v : AVal} {rs : List Nat} (h : Bs H v rs) : alen false v = some (.int .i64 (rs.length : Nat)) := by
  have := Sl.len h; simpa using this
theorem Bs.addr {H : Heap} {v : AVal} {rs : List Nat} (h : Bs H v rs) {i : Nat} (hi : i < rs.length) : aindexAddr none 1 v (.int .i64 (i : Int)) = some (slot v (i * 1)) := Sl.addr h (by simpa using hi)
theorem Bs.load {H : Heap} {v : AVal} {rs : List Nat} (h : Bs H v rs) {i : Nat} (hi : i < rs.length) : aload H none (slot v (i * 1)) = some (.int .u8 (rs[i] : Int)) := Sl.load1 h (by simp [hi])
theorem Bs.keep {H H' : Heap} {v : AVal} {rs : List Nat} (hk : Keeps2 H H') (h : Bs H v rs) : Bs H' v rs := Sl.keep hk h

theorem set_term (e : Ent) (t : Nat) : (enc e).set 1 (.int .u64 (t : Int)) = enc { e with term := t } := rfl

theorem grown_loop {n lim : Nat} {K : AVal → Heap → Prop} {w rv : AVal} {l : List Ent} {rs : List Nat} {H0 : Heap} {bL : Nat} {L1 : Lg} (hw : Es H0 w l) (hrv : Bs H0 rv rs) (hlen : l.length ≤ 100000) (hrl : rs.length ≤ 9223372036854775807) (hl : lim ≤ H0.next) (hbL : H0.next ≤ bL)
    (hK : ∀ H' v', Keeps2 H0 H' → LogAt H' bL v' L1 → (∀ c, slBlk v' = some c → H0.next ≤ c) → K (ptr bL) H') :
    ∀ (m k t : Nat) (L : Lg) (v : AVal) (H : Heap), Keeps2 H0 H → LogAt H bL v L → (∀ c, slBlk v = some c → H0.next ≤ c) → L.Fits → L.es.length = k → l.length < m + k → k ≤ l.length → t + 2 * (l.length - k) < 18446744073709551616 → L.idx + l.length < 9223372036854775808 →
      L1 = grownP rs k t L (l.drop k) → F17_l0 (Ahs.runT ap (n + 4)) lim (n + 4) K m (.int .u64 (t : Int)) w rv (ptr bL) (.int .i64 (k : Int)) H
  | 0, k, t, L, v, H, _, _, _, _, _, hm, hk, _, _, _ => by exfalso; omega
  | m + 1, k, t, L, v, H, k0, hL, hv0, hf, hLk, hm, hk, ht, hi, hL1 => by
    show F17_s0 _ _ _ _ (F17_l0 _ _ _ _ m) _ _ _ _ _ H
    unfold F17_s0 F17_j0
    have hw' := hw.keep k0
    have hrv' := hrv.keep k0
    have hln : lim ≤ H.next := Nat.le_trans hl k0.next
    by_cases h1 : k < l.length
    · have hd : decide ((k : Int) < (l.length : Int)) = true := dT (by omega)
      have hwr : IntKind.i64.wrap ((k : Int) + 1) = ((k + 1 : Nat) : Int) := i64_succ (by omega)
      have st1 : ∀ t' : Nat, astore lim (H.push (.cells (enc l[k]))) 1 (.ptr (some (H.next, 1))) (.int .u64 (t' : Int)) = some (H.push (.cells (enc { l[k] with term := t' }))) := fun t' =>
        astore_new1 hln rfl (by rw [enc_len]; omega) rfl
      have st2 : ∀ t' t'' : Nat, astore lim (H.push (.cells (enc { l[k] with term := t' }))) 1 (.ptr (some (H.next, 1))) (.int .u64 (t'' : Int)) = some (H.push (.cells (enc { l[k] with term := t'' }))) := fun t' t'' =>
        astore_new1 hln rfl (by rw [enc_len]; omega) rfl
      rw [List.drop_eq_getElem_cons h1] at hL1
      -- the end of a round
      have fin : t + riseAt rs k < 18446744073709551616 → F17_j1 (Ahs.runT ap (n + 4)) lim (n + 4) K (F17_l0 (Ahs.runT ap (n + 4)) lim (n + 4) K m) w rv (ptr bL) (.int .i64 (k : Int)) (.ptr (some (H.next, 0))) (H.push (.cells (enc { l[k] with term := t + riseAt rs k }))) := by
        intro _
        unfold F17_j1
        have kp : Keeps2 H (H.push (.cells (enc { l[k] with term := t + riseAt rs k }))) := .push _ _
        have hLp := hL.keep kp
        have hlast := hf.last
        (repeat (first | (with_reducible apply bindP_intro; (focus (first | with_reducible rfl | (simp only [walkR, get0, getS, Nat.zero_add, Nat.add_zero, Bool.not_true, Bool.not_false, decide_true, decide_false, reduceIte, and_self, Bool.false_eq_true, aload_new1, enc1, ld13] <;> with_reducible rfl)))) | (with_reducible apply bind2_intro; (focus (first | with_reducible rfl | (simp only [walkR, get0, getS, Nat.zero_add, Nat.add_zero, Bool.not_true, Bool.not_false, decide_true, decide_false, reduceIte, and_self, Bool.false_eq_true, aload_new1, enc1, ld13] <;> with_reducible rfl)))) | with_reducible apply cond_t | with_reducible apply cond_f))
        refine bind2_of (log35 (n := n) hLp (fun c hc => ?_) (by rw [Heap.next_push]; omega) (by omega) { l[k] with term := t + riseAt rs k } (by omega)) ?_
        · rcases hc with rfl | hc
          · omega
          · have := hv0 c hc; omega
        · rintro _ H2 ⟨rfl, ⟨v', hL2, hv'⟩, f2⟩
          have k2 : Keeps2 H0 H2 := Fram.keeps (k0.trans kp) f2 (fun c hc hfc => by
            rcases hfc with rfl | hfc
            · omega
            · have := hv0 c hfc; omega)
          (repeat (first | (with_reducible apply bindP_intro; (focus (first | with_reducible rfl | (simp only [walkR, get0, getS, Nat.zero_add, Nat.add_zero, Bool.not_true, Bool.not_false, decide_true, decide_false, reduceIte, and_self, Bool.false_eq_true, hwr] <;> with_reducible rfl)))) | (with_reducible apply bind2_intro; (focus (first | with_reducible rfl | (simp only [walkR, get0, getS, Nat.zero_add, Nat.add_zero, Bool.not_true, Bool.not_false, decide_true, decide_false, reduceIte, and_self, Bool.false_eq_true, hwr] <;> with_reducible rfl)))) | with_reducible apply cond_t | with_reducible apply cond_f))
          refine grown_loop hw hrv hlen hrl hl hbL hK m (k + 1) (t + riseAt rs k) _ v' H2 k2 hL2 (fun c hc => ?_) (hf.add _) (by simp [addP, hLk]) (by omega) (by omega) ?_ hi hL1
          · have := hv' c hc
            rw [Heap.next_push] at this
            have := k0.next; omega
          · have hr : riseAt rs k ≤ 2 := by unfold riseAt; omega
            omega
      by_cases h2 : k < rs.length
      · have hd2 : decide ((k : Int) < (rs.length : Int)) = true := dT (by omega)
        have hrr : riseAt rs k = rs[k] % 3 := by unfold riseAt; rw [List.getElem?_eq_getElem h2]; rfl
        have hrem : abin .rem (.int .u8 (rs[k] : Int)) (.int .u8 3) = some (.int .u8 ((rs[k] % 3 : Nat) : Int)) := by
          rw [abin_rem _ _ _ (by decide)]
          congr 2
        have hcv : IntKind.u64.wrap ((rs[k] % 3 : Nat) : Int) = ((rs[k] % 3 : Nat) : Int) := wrap_u64 (by omega) (by omega)
        have hadd : IntKind.u64.wrap ((t : Int) + ((rs[k] % 3 : Nat) : Int)) = ((t + rs[k] % 3 : Nat) : Int) := by rw [wrap_u64 (by omega) (by omega)]; omega
        have hrv2 : ∀ cs, Bs (H.push (.cells cs)) rv rs := fun cs => hrv'.keep (.push _ _)
        (repeat (first | (with_reducible apply bindP_intro; (focus (first | with_reducible rfl | (simp only [walkR, get0, getS, Nat.zero_add, Nat.add_zero, Bool.not_true, Bool.not_false, decide_true, decide_false, reduceIte, and_self, Bool.false_eq_true, hw'.len, hd, hw'.addr h1, hw'.load h1, st13 hln, st1 t, hrv'.len, hd2, aload_new1, enc1, hrv'.addr h2, (hrv2 _).load h2, hrem, hcv, hadd, st2] <;> with_reducible rfl)))) | (with_reducible apply bind2_intro; (focus (first | with_reducible rfl | (simp only [walkR, get0, getS, Nat.zero_add, Nat.add_zero, Bool.not_true, Bool.not_false, decide_true, decide_false, reduceIte, and_self, Bool.false_eq_true, hw'.len, hd, hw'.addr h1, hw'.load h1, st13 hln, st1 t, hrv'.len, hd2, aload_new1, enc1, hrv'.addr h2, (hrv2 _).load h2, hrem, hcv, hadd, st2] <;> with_reducible rfl)))) | with_reducible apply cond_t | with_reducible apply cond_f))
        rw [← hrr]
        exact fin (by rw [hrr]; omega)
      · have hd2 : decide ((k : Int) < (rs.length : Int)) = false := dF (by omega)
        have hrr : riseAt rs k = 0 := by unfold riseAt; rw [List.getElem?_eq_none (by omega)]; rfl
        (repeat (first | (with_reducible apply bindP_intro; (focus (first | with_reducible rfl | (simp only [walkR, get0, getS, Nat.zero_add, Nat.add_zero, Bool.not_true, Bool.not_false, decide_true, decide_false, reduceIte, and_self, Bool.false_eq_true, hw'.len, hd, hw'.addr h1, hw'.load h1, st13 hln, st1 t, hrv'.len, hd2] <;> with_reducible rfl)))) | (with_reducible apply bind2_intro; (focus (first | with_reducible rfl | (simp only [walkR, get0, getS, Nat.zero_add, Nat.add_zero, Bool.not_true, Bool.not_false, decide_true, decide_false, reduceIte, and_self, Bool.false_eq_true, hw'.len, hd, hw'.addr h1, hw'.load h1, st13 hln, st1 t, hrv'.len, hd2] <;> with_reducible rfl)))) | with_reducible apply cond_t | with_reducible apply cond_f))
        have := fin (by omega)
        rw [hrr, Nat.add_zero] at this
        exact this
    · have hd : decide ((k : Int) < (l.length : Int)) = false := dF (by omega)
      (repeat (first | (with_reducible apply bindP_intro; (focus (first | with_reducible rfl | (simp only [walkR, get0, getS, Nat.zero_add, Nat.add_zero, Bool.not_true, Bool.not_false, decide_true, decide_false, reduceIte, and_self, Bool.false_eq_true, hw'.len, hd] <;> with_reducible rfl)))) | (with_reducible apply bind2_intro; (focus (first | with_reducible rfl | (simp only [walkR, get0, getS, Nat.zero_add, Nat.add_zero, Bool.not_true, Bool.not_false, decide_true, decide_false, reduceIte, and_self, Bool.false_eq_true, hw'.len, hd] <;> with_reducible rfl)))) | with_reducible apply cond_t | with_reducible apply cond_f))
      rw [List.drop_eq_nil_of_le (by omega)] at hL1
      have hL1' : L1 = L := hL1
      rw [← hL1'] at hL
      exact hK H v k0 hL hv0

theorem grown17 {n lim : Nat} {H : Heap} {w rv : AVal} {l : List Ent} {rs : List Nat} (hw : Es H w l) (hrv : Bs H rv rs) (hlen : l.length ≤ 100000) (hrl : rs.length ≤ 9223372036854775807) (hl : lim ≤ H.next) (hn : l.length < n) {i t m : Nat} (hi : i ≤ 1152921504606846976) (ht : t ≤ 1152921504606846976) :
    ∃ r H', Ahs.runT ap (n + 5) lim (.fn 17) [.int .u64 (i : Int), .int .u64 (t : Int), .int .u8 (m : Int), w, rv] H = some (r, H') ∧ ∃ b v, r = ptr b ∧ LogAt H' b v (grownP rs 0 t ⟨i, t, m, []⟩ l) ∧ H.next ≤ b ∧ (∀ c, slBlk v = some c → H.next ≤ c) ∧ Keeps2 H H' := by
  refine F17_run a17 ?_
  unfold F17
  refine bind2_of (new0 (n := n) hl (i := i) (t := t) (m := m) (by omega)) ?_
  rintro _ H1 ⟨⟨b, rfl, hL, hb⟩, k1⟩
  (repeat (first | (with_reducible apply bindP_intro; (focus (first | with_reducible rfl | (simp only [walkR, get0, getS, Nat.zero_add, Nat.add_zero, Bool.not_true, Bool.not_false, decide_true, decide_false, reduceIte, and_self, Bool.false_eq_true] <;> with_reducible rfl)))) | (with_reducible apply bind2_intro; (focus (first | with_reducible rfl | (simp only [walkR, get0, getS, Nat.zero_add, Nat.add_zero, Bool.not_true, Bool.not_false, decide_true, decide_false, reduceIte, and_self, Bool.false_eq_true] <;> with_reducible rfl)))) | with_reducible apply cond_t | with_reducible apply cond_f))
  refine grown_loop (n := n) (H0 := H) (L1 := grownP rs 0 t ⟨i, t, m, []⟩ l) hw hrv hlen hrl hl hb (fun H' v' q1 q2 q3 => ⟨b, v', rfl, q2, hb, q3, q1⟩) (n + 4) 0 t ⟨i, t, m, []⟩ _ H1 k1 hL (fun c hc => by simp [slBlk] at hc) rfl rfl (by omega) (by omega) (by omega) (by show i + l.length < _; omega) (by rw [List.drop_zero])

end Go.Proofs.Ytpefhojmfcenfaa.logs
