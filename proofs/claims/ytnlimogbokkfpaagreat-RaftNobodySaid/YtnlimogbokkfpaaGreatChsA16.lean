/- A region whose operations go in whatever order its edges allow. -/
import Derived.Test.YtnlimogbokkfpaaGreatChsA15
set_option linter.unusedSimpArgs false
set_option linter.unusedVariables false
namespace Go.Ahs
structure Fr (lim : Nat) (ρ : Mp) (nx nx' : Nat) (w : World) (ρ' : Mp) (w' : World) : Prop where
  ext : Ext ρ ρ'
  new : ∀ b L, ρ b = none → ρ' b = some L → nx ≤ b ∧ b < nx' ∧ (w.heap.size ≤ L.blk ∨ ∃ b0 L0, lim ≤ b0 ∧ b0 < nx ∧ ρ b0 = some L0 ∧ L0.blk = L.blk)
  frame : ∀ r, r < w.heap.size → (∀ b L, lim ≤ b → b < nx → ρ b = some L → L.blk ≠ r) → w'.heap[r]? = w.heap[r]?
  size : w.heap.size ≤ w'.heap.size
  rest : Same w w'
theorem Fr.refl {lim nx nx' : Nat} {ρ : Mp} {w : World} : Fr lim ρ nx nx' w ρ w :=
  ⟨.refl ρ, fun b L e e' => by rw [e] at e'; simp at e', fun _ _ _ => rfl, Nat.le_refl _, .refl w⟩
theorem Fr.step {P : Program} {n0 lim lim' nx nx' : Nat} {ρ ρ₁ ρ₂ : Mp} {w w₁ w₂ : World} {H H' : Heap} (h : Fr lim ρ nx nx' w ρ₁ w₁) (hl : lim ≤ lim') (hf : ∀ b, nx ≤ b → b < nx' → ρ b = none) (h1 : nx ≤ H.next) (h3 : H'.next ≤ nx')
    (h' : Post P n0 lim' ρ₁ H w₁ ρ₂ H' w₂) : Fr lim ρ nx nx' w ρ₂ w₂ := by
  have old : ∀ b0 L0, lim' ≤ b0 → b0 < H.next → ρ₁ b0 = some L0 → (w.heap.size ≤ L0.blk ∨ ∃ b1 L1, lim ≤ b1 ∧ b1 < nx ∧ ρ b1 = some L1 ∧ L1.blk = L0.blk) := by
    intro b0 L0 g1 g2 g3
    cases hb : ρ b0 with
    | none => exact (h.new b0 L0 hb g3).2.2
    | some L1 =>
      have := h.ext b0 L1 hb
      rw [g3] at this; simp at this; subst this
      rcases Nat.lt_or_ge b0 nx with g | g
      · exact .inr ⟨b0, L0, by omega, g, hb, rfl⟩
      · rw [hf b0 g (by have := h'.next; omega)] at hb; simp at hb
  refine ⟨h.ext.trans h'.ext, ?_, ?_, Nat.le_trans h.size h'.size, h.rest.trans h'.rest⟩
  · intro b L e e'
    cases hb : ρ₁ b with
    | some L1 =>
      have := h'.ext b L1 hb
      rw [e'] at this; simp at this; subst this
      exact h.new b L e hb
    | none =>
      obtain ⟨g1, g2, g3⟩ := h'.new b L hb e'
      refine ⟨by omega, by omega, ?_⟩
      rcases g3 with g3 | ⟨b0, L0, q1, q2, q3, q4⟩
      · exact .inl (Nat.le_trans h.size g3)
      · rw [← q4]; exact old b0 L0 q1 q2 q3
  · intro r hr hn
    rw [h'.frame r (Nat.lt_of_lt_of_le hr h.size) ?_, h.frame r hr hn]
    intro b L g1 g2 g3
    rcases old b L g1 g2 g3 with q | ⟨b1, L1, q1, q2, q3, q4⟩
    · omega
    · rw [← q4]; exact hn b1 L1 q1 q2 q3
inductive Bef (ops : Array Oper) : Nat → Nat → Prop where
  | edge {i : Nat} {o : Oper} {e : Edge} (hi : ops[i]? = some o) (he : e ∈ o.after) (hb : Region.binds .any e = true) : Bef ops e.on i
  | trans {i j : Nat} {o : Oper} {e : Edge} (hi : ops[i]? = some o) (he : e ∈ o.after) (hb : Region.binds .any e = true) (h : Bef ops j e.on) : Bef ops j i
theorem testBit_or (a b j : Nat) : (a ||| b).testBit j = (a.testBit j || b.testBit j) := Nat.testBit_or ..
theorem foldl_bits (ops : Array Oper) (acc : Array Nat) (i : Nat) (o : Oper) (hi : ops[i]? = some o) (hacc : ∀ k j, (acc.getD k 0).testBit j = true → Bef ops j k) : ∀ (es : List Edge) (s : Nat), (∀ e ∈ es, e ∈ o.after) →
    (∀ j, s.testBit j = true → Bef ops j i) → ∀ j, (es.foldl (fun s e => if Region.binds .any e then s ||| 2 ^ e.on ||| acc.getD e.on 0 else s) s).testBit j = true → Bef ops j i
  | [], s, _, hs, j, h => hs j h
  | e :: es, s, hes, hs, j, h => by
    simp only [List.foldl_cons] at h
    refine foldl_bits ops acc i o hi hacc es _ (fun x hx => hes x (by simp [hx])) ?_ j h
    intro j hj
    split at hj
    · rename_i hb
      rw [testBit_or, testBit_or, Bool.or_eq_true, Bool.or_eq_true] at hj
      rcases hj with (hj | hj) | hj
      · exact hs j hj
      · rw [Nat.testBit_two_pow] at hj
        simp at hj
        subst hj
        exact .edge hi (hes e (by simp)) hb
      · exact .trans hi (hes e (by simp)) hb (hacc _ _ hj)
    · exact hs j hj
theorem before_sound (ops : Array Oper) : ∀ k j, ((Region.before ops).getD k 0).testBit j = true → Bef ops j k := by
  unfold Region.before
  have key : ∀ (n : Nat) (l : List Oper) (acc : Array Nat), acc.size = n → ops.toList.drop n = l → (∀ k j, (acc.getD k 0).testBit j = true → Bef ops j k) →
      ∀ k j, ((l.foldl (fun acc o => acc.push (o.after.foldl (fun s e => if Region.binds .any e then s ||| 2 ^ e.on ||| acc.getD e.on 0 else s) 0)) acc).getD k 0).testBit j = true → Bef ops j k := by
    intro n l
    induction l generalizing n with
    | nil => intro acc _ _ h; exact h
    | cons o l ih =>
      intro acc hn hl hacc
      simp only [List.foldl_cons]
      have hlt : n < ops.toList.length := by
        rcases Nat.lt_or_ge n ops.toList.length with q | q
        · exact q
        · rw [List.drop_eq_nil_of_le q] at hl; simp at hl
      rw [List.drop_eq_getElem_cons hlt] at hl
      simp only [List.cons.injEq] at hl
      obtain ⟨ho, hl'⟩ := hl
      have hi : ops[n]? = some o := by
        have : n < ops.size := by simpa using hlt
        rw [Array.getElem?_eq_getElem this]; simpa using ho
      refine ih (n + 1) _ (by simp [hn]) hl' ?_
      intro k j hk
      rw [Array.getD_eq_getD_getElem?, Array.getElem?_push] at hk
      by_cases hkn : k = acc.size
      · rw [if_pos hkn] at hk
        subst hkn
        rw [← Array.foldl_toList] at hk
        rw [hn] at *
        exact foldl_bits ops acc n o hi hacc o.after.toList 0 (fun e he => by simpa using he) (fun j h => by simp at h) j (by simpa using hk)
      · rw [if_neg hkn] at hk
        exact hacc k j (by rw [Array.getD_eq_getD_getElem?]; exact hk)
  rw [← Array.foldl_toList]
  exact key 0 ops.toList #[] rfl (by simp) (fun k j h => by simp at h)
section fold
variable (l : List AOper) (vs : Nat → AVal) (T0 : List AVal)
def foldT (S : Nat → Bool) : Nat → List AVal
  | 0 => T0
  | i + 1 => if S i then (match l[i]? with | some o => putT (foldT S i) o.dst (vs i) | none => foldT S i) else foldT S i
theorem putT_length (T : List AVal) (d : Option Nat) (v : AVal) : (putT T d v).length = T.length := by cases d <;> simp [putT]
theorem foldT_length (S : Nat → Bool) : ∀ n, (foldT l vs T0 S n).length = T0.length
  | 0 => rfl
  | n + 1 => by
    unfold foldT
    split
    · split
      · rw [putT_length, foldT_length S n]
      · exact foldT_length S n
    · exact foldT_length S n
theorem putT_other {T : List AVal} {d : Option Nat} {v : AVal} {t : Nat} (h : d ≠ some t) : (putT T d v)[t]? = T[t]? := by
  cases d with
  | none => rfl
  | some d => simp only [putT, List.getElem?_set]; rw [if_neg (by rintro rfl; exact h rfl)]
theorem putT_same {T : List AVal} {v : AVal} {t : Nat} : (putT T (some t) v)[t]? = if t < T.length then some v else none := by simp [putT, List.getElem?_set]
theorem foldT_agree (t : Nat) (S S' : Nat → Bool) : ∀ n, (∀ j, j < n → ∀ o, l[j]? = some o → o.dst = some t → S j = S' j) → (foldT l vs T0 S n)[t]? = (foldT l vs T0 S' n)[t]?
  | 0, _ => rfl
  | n + 1, h => by
    have ih := foldT_agree t S S' n fun j hj => h j (by omega)
    simp only [foldT]
    cases ho : l[n]? with
    | none => simp [ih]
    | some o =>
      simp only
      by_cases hd : o.dst = some t
      · have hs := h n (by omega) o ho hd
        rw [hs, hd]
        split
        · rw [putT_same, putT_same, foldT_length, foldT_length]
        · exact ih
      · have e1 : ∀ T : List AVal, (putT T o.dst (vs n))[t]? = T[t]? := fun T => putT_other hd
        by_cases a : S n = true <;> by_cases b : S' n = true <;> simp [a, b, e1, ih]
theorem foldT_past (S : Nat → Bool) (k : Nat) : ∀ n, k ≤ n → (∀ j, k ≤ j → j < n → S j = false) → foldT l vs T0 S n = foldT l vs T0 S k
  | 0, h, _ => by have : k = 0 := by omega
                  subst this; rfl
  | n + 1, h, hs => by
    by_cases e : k = n + 1
    · subst e; rfl
    · simp only [foldT, hs n (by omega) (by omega), Bool.false_eq_true, if_false]
      exact foldT_past S k n (by omega) fun j a b => hs j a (by omega)
theorem foldT_insert (S S' : Nat → Bool) (N k : Nat) (o : AOper) (hk : k < N) (ho : l[k]? = some o) (hS : S k = false) (hS' : S' k = true) (hsame : ∀ j, j ≠ k → S' j = S j)
    (hlater : ∀ j, k < j → j < N → ∀ o', l[j]? = some o' → o'.dst.isSome → o'.dst = o.dst → S j = false) : foldT l vs T0 S' N = putT (foldT l vs T0 S N) o.dst (vs k) := by
  apply List.ext_getElem?
  intro t
  by_cases hd : o.dst = some t
  · rw [hd, putT_same, foldT_length]
    have key : ∀ n, k + 1 ≤ n → n ≤ N → (foldT l vs T0 S' n)[t]? = if t < T0.length then some (vs k) else none := by
      intro n h1 h2
      induction n with
      | zero => omega
      | succ n ih =>
        by_cases hn : n = k
        · subst hn
          simp only [foldT, hS', if_true, ho, hd]
          rw [putT_same, foldT_length]
        · have ih' := ih (by omega) (by omega)
          simp only [foldT]
          cases ho' : l[n]? with
          | none => simp [ih']
          | some o' =>
            by_cases hd' : o'.dst = some t
            · have : S n = false := hlater n (by omega) (by omega) o' ho' (by rw [hd']; rfl) (by rw [hd', hd])
              rw [hsame n hn, this]
              simpa using ih'
            · split
              · rw [putT_other hd']; exact ih'
              · exact ih'
    exact key N (by omega) (Nat.le_refl _)
  · rw [putT_other hd]
    refine (foldT_agree l vs T0 t S' S N ?_)
    intro j hj o' ho' hd'
    by_cases e : j = k
    · subst e; rw [ho] at ho'; simp at ho'; subst ho'; exact absurd hd' hd
    · exact hsame j e
end fold
theorem nextW (W : Nat → Prop) [DecidablePred W] (N : Nat) : ∀ (m i : Nat), i + m = N → ∃ q, i ≤ q ∧ q ≤ N ∧ (∀ j, i ≤ j → j < q → ¬ W j) ∧ (q < N → W q)
  | 0, i, h => ⟨i, Nat.le_refl _, by omega, fun j _ _ => by omega, fun _ => by omega⟩
  | m + 1, i, h => by
    by_cases hw : W i
    · exact ⟨i, Nat.le_refl _, by omega, fun j _ _ => by omega, fun _ => hw⟩
    · obtain ⟨q, h1, h2, h3, h4⟩ := nextW W N m (i + 1) (by omega)
      refine ⟨q, by omega, h2, fun j a b => ?_, h4⟩
      by_cases e : j = i
      · subst e; exact hw
      · exact h3 j (by omega) b
theorem trace {R : Caller} {lim : Nat} : ∀ (l : List AOper) (s s' : St), execOps R lim l s = some s' →
    ∃ (st : Nat → St) (vs : Nat → AVal), st 0 = s ∧ st l.length = s' ∧ ∀ (i : Nat) (o : AOper), l[i]? = some o → OneStep R lim o (st i).tmps (st i).H (vs i) (st (i + 1)).H ∧ (st (i + 1)).tmps = putT (st i).tmps o.dst (vs i) ∧ (wantedA (st i).tmps o.guard = true → o.clear (st i).tmps = true ∨ (o.op.isLate = true ∧ o.kept (st i).tmps (st i).H (st (i + 1)).H = true))
  | [], s, s', h => by
    simp [execOps] at h; subst h
    exact ⟨fun _ => s, fun _ => und, rfl, rfl, fun i o h => by simp at h⟩
  | o :: l, s, s', h => by
    unfold execOps at h
    split at h
    · rename_i s1 h1
      obtain ⟨v, q1, q2, q3⟩ := execOp_inv h1
      obtain ⟨st, vs, e0, e1, e2⟩ := trace l s1 s' h
      refine ⟨fun i => match i with | 0 => s | i + 1 => st i, fun i => match i with | 0 => v | i + 1 => vs i, rfl, e1, ?_⟩
      intro i o' ho
      cases i with
      | zero => simp at ho; subst ho; simp only [e0]; exact ⟨q1, q2, q3⟩
      | succ i => simp at ho; exact e2 i o' ho
    · simp at h
end Go.Ahs
