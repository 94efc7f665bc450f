/- Plain facts on logs: terms, what is put. -/
import Derived.Test.YtpefhojmfcenfaaLgOps6
set_option maxRecDepth 100000
set_option linter.unusedVariables false
set_option linter.unusedSimpArgs false
namespace Go.Proofs.Ytpefhojmfcenfaa.logs
open Go.Ahs

theorem fromP_all {L : Lg} {most : Nat} (h : L.es.length ≤ most) : fromP L 0 most = L.es := by
  unfold fromP
  have : max 0 (L.idx + 1) - L.idx - 1 = 0 := by omega
  rw [this, List.drop_zero, List.take_of_length_le h]

theorem termP_some {L : Lg} {i t : Nat} (h : termP L i = some t) : L.idx ≤ i ∧ i ≤ L.idx + L.es.length := by
  unfold termP at h
  split at h
  · rename_i hc; omega
  · split at h
    · rename_i hi; omega
    · simp at h

theorem termP_at {L : Lg} {q : Nat} (hq : q ≤ L.es.length) : termP L (L.idx + q) = some (endP L.idx L.term (L.es.take q)).2 := by
  unfold termP
  cases q with
  | zero =>
    rw [if_neg (by omega), if_pos (by omega)]
    rfl
  | succ q =>
    rw [if_pos ⟨by omega, by omega⟩, endP_last]
    have h1 : L.idx + (q + 1) - L.idx - 1 = q := by omega
    have h2 : q < L.es.length := by omega
    rw [h1, List.getElem?_eq_getElem h2]
    have h3 : (L.es.take (q + 1)).getLast? = some L.es[q] := by
      rw [List.getLast?_eq_getElem?, List.length_take, Nat.min_eq_left (by omega), List.getElem?_take, if_pos (by omega)]
      simp [h2]
    rw [h3]
    rfl

theorem Lg.Fits.split {L : Lg} (h : L.Fits) {q : Nat} (hq : q ≤ L.es.length) : ∃ t, termP L (L.idx + q) = some t ∧ fitP (L.idx + q) t (L.es.drop q) = true := by
  refine ⟨_, termP_at hq, ?_⟩
  have h' : fitP L.idx L.term (L.es.take q ++ L.es.drop q) = true := by rw [List.take_append_drop]; exact h
  rw [fitP_append, Bool.and_eq_true] at h'
  have he := fitP_end h'.1
  rw [List.length_take, Nat.min_eq_left hq] at he
  rw [← he.1]
  exact h'.2

theorem fitP_take {i t : Nat} {es : List Ent} (h : fitP i t es = true) (q : Nat) : fitP i t (es.take q) = true := by
  have h' : fitP i t (es.take q ++ es.drop q) = true := by rw [List.take_append_drop]; exact h
  rw [fitP_append, Bool.and_eq_true] at h'
  exact h'.1

/-- Entries of a log behind one of its indexes. -/
theorem from_facts {L : Lg} (h : L.Fits) {q many : Nat} (hq : q ≤ L.es.length) : ∃ t, termP L (L.idx + q) = some t ∧ fitP (L.idx + q) t (fromP L (L.idx + q + 1) many) = true ∧ fromP L (L.idx + q + 1) many = (L.es.drop q).take many := by
  have he : fromP L (L.idx + q + 1) many = (L.es.drop q).take many := by
    unfold fromP
    have : max (L.idx + q + 1) (L.idx + 1) - L.idx - 1 = q := by omega
    rw [this]
  obtain ⟨t, h1, h2⟩ := h.split hq
  exact ⟨t, h1, by rw [he]; exact fitP_take h2 many, he⟩

/-- What Put makes of a log, behind an index at which it has the term. -/
structure PutFacts (L : Lg) (i t : Nat) (es : List Ent) (L' : Lg) : Prop where
  idx : L'.idx = L.idx
  term : L'.term = L.term
  mem : L'.mem = L.mem
  len : i - L.idx + es.length ≤ L'.es.length
  le : L'.es.length ≤ L.es.length + es.length
  ahead : L'.es.take (i - L.idx) = L.es.take (i - L.idx)
  at' : termP L' i = some t
  get : ∀ k e, es[k]? = some e → termP L' (i + k + 1) = some e.term
  fits : L.Fits → L'.Fits
  stays : L' = L ∨ ∃ q, q ≤ es.length ∧ L'.es = L.es.take (i - L.idx + q) ++ es.drop q ∧ es.drop q ≠ [] ∧ i - L.idx + q ≤ L.es.length ∧ freshP L es = es.drop q

theorem put_facts {L : Lg} {i t : Nat} {es : List Ent} (hi : L.idx ≤ i) (ht : termP L i = some t) (hf : fitP i t es = true) : PutFacts L i t es (putP L es) := by
  unfold putP
  have hsplit : es = es.takeWhile (skipP L) ++ freshP L es := (List.takeWhile_append_dropWhile).symm
  generalize hsk : es.takeWhile (skipP L) = sk at hsplit
  have hskip : ∀ k e, sk[k]? = some e → es[k]? = some e ∧ e.idx = i + k + 1 ∧ termP L e.idx = some e.term := by
    intro k e hk
    have hlt : k < sk.length := by
      rcases Nat.lt_or_ge k sk.length with h | h
      · exact h
      · rw [List.getElem?_eq_none h] at hk; simp at hk
    have h1 : es[k]? = some e := by rw [hsplit, List.getElem?_append_left hlt]; exact hk
    have h2 := (fitP_idx hf k e h1).1
    refine ⟨h1, h2, ?_⟩
    have h3 : skipP L e = true := by
      have hm : e ∈ es.takeWhile (skipP L) := by rw [hsk]; exact List.mem_of_getElem? hk
      exact List.all_eq_true.1 List.all_takeWhile e hm
    unfold skipP at h3
    simp only [Bool.or_eq_true, decide_eq_true_eq] at h3
    rcases h3 with h3 | h3
    · omega
    · exact h3
  have hbound : i + sk.length ≤ L.idx + L.es.length := by
    rcases Nat.eq_zero_or_pos sk.length with h | h
    · have := termP_some ht; omega
    · have h1 : sk[sk.length - 1]? = some sk[sk.length - 1] := List.getElem?_eq_getElem (by omega)
      obtain ⟨_, h2, h3⟩ := hskip _ _ h1
      have := termP_some h3
      omega
  have hlen : es.length = sk.length + (freshP L es).length := by
    have := congrArg List.length hsplit
    rw [List.length_append] at this
    exact this
  have hdrop : freshP L es = es.drop sk.length := by
    have := congrArg (List.drop sk.length) hsplit
    rw [List.drop_left] at this
    exact this.symm
  cases hfr : freshP L es with
  | nil =>
    rw [hfr] at hsplit hlen
    simp at hsplit hlen
    refine ⟨rfl, rfl, rfl, by show i - L.idx + es.length ≤ L.es.length; omega, by show L.es.length ≤ _; omega, rfl, ht, fun k e hk => ?_, fun h => h, .inl rfl⟩
    obtain ⟨_, h2, h3⟩ := hskip k e (by rw [← hsplit]; exact hk)
    rw [← h2]; exact h3
  | cons f fs =>
    have hfk : es[sk.length]? = some f := by rw [hsplit, List.getElem?_append_right (Nat.le_refl _), hfr]; simp
    have hfi := (fitP_idx hf _ _ hfk).1
    have hq : f.idx - L.idx - 1 = i - L.idx + sk.length := by omega
    have hes' : (withP L (f :: fs)).es = L.es.take (i - L.idx + sk.length) ++ es.drop sk.length := by
      show L.es.take (f.idx - L.idx - 1) ++ (f :: fs) = _
      rw [hq, ← hdrop, hfr]
    have htl : (L.es.take (i - L.idx + sk.length)).length = i - L.idx + sk.length := by rw [List.length_take]; omega
    -- terms of the new log
    have low : ∀ j, L.idx ≤ j → j ≤ i + sk.length → termP (withP L (f :: fs)) j = termP L j := by
      intro j h1 h2
      unfold termP
      rw [hes']
      show (if L.idx < j ∧ j ≤ L.idx + _ then _ else if j = L.idx then some L.term else none) = _
      by_cases h3 : L.idx < j
      · rw [if_pos ⟨h3, by rw [List.length_append, htl]; omega⟩, if_pos ⟨h3, by omega⟩]
        congr 1
        show (L.es.take (i - L.idx + sk.length) ++ es.drop sk.length)[j - L.idx - 1]? = _
        rw [List.getElem?_append_left (by omega), List.getElem?_take, if_pos (by omega)]
      · have : j = L.idx := by omega
        subst this
        simp only [Nat.lt_irrefl, false_and, if_false]
    refine ⟨rfl, rfl, rfl, ?_, ?_, ?_, ?_, ?_, ?_, ?_⟩
    · rw [hes', List.length_append, htl, List.length_drop]; omega
    · rw [hes', List.length_append, htl, List.length_drop]; omega
    · rw [hes', List.take_append_of_le_length (by rw [htl]; omega), List.take_take]
      congr 1; omega
    · rw [low i hi (by omega)]; exact ht
    · intro k e hk
      by_cases hks : k < sk.length
      · have h1 : sk[k]? = some e := by rw [hsplit, List.getElem?_append_left hks] at hk; exact hk
        obtain ⟨_, h2, h3⟩ := hskip k e h1
        rw [low _ (by omega) (by omega), ← h2]; exact h3
      · have hkl : k < es.length := by
          rcases Nat.lt_or_ge k es.length with h | h
          · exact h
          · rw [List.getElem?_eq_none h] at hk; simp at hk
        unfold termP
        rw [hes']
        show (if L.idx < i + k + 1 ∧ i + k + 1 ≤ L.idx + _ then _ else _) = _
        rw [if_pos ⟨by omega, by rw [List.length_append, htl, List.length_drop]; omega⟩]
        show Option.map _ (L.es.take (i - L.idx + sk.length) ++ es.drop sk.length)[i + k + 1 - L.idx - 1]? = _
        rw [List.getElem?_append_right (by omega), htl, List.getElem?_drop]
        have : sk.length + (i + k + 1 - L.idx - 1 - (i - L.idx + sk.length)) = k := by omega
        rw [this, hk]; rfl
    · intro hL
      unfold Lg.Fits
      rw [hes']
      show fitP L.idx L.term _ = true
      rw [fitP_append, fitP_take hL, Bool.true_and]
      have e1 := fitP_end (fitP_take hL (i - L.idx + sk.length))
      rw [htl] at e1
      have e2 := termP_at (L := L) (q := i - L.idx + sk.length) (by omega)
      have e3 : L.idx + (i - L.idx + sk.length) = i + sk.length := by omega
      rw [e3] at e2 e1
      rw [e1.1]
      -- the term there is that of what is put
      have e4 : termP L (i + sk.length) = some (endP i t sk).2 := by
        rcases Nat.eq_zero_or_pos sk.length with h | h
        · have : sk = [] := List.length_eq_zero_iff.1 h
          rw [this]; exact ht
        · have h1 : sk[sk.length - 1]? = some sk[sk.length - 1] := List.getElem?_eq_getElem (by omega)
          obtain ⟨_, h2, h3⟩ := hskip _ _ h1
          have h4 : i + sk.length = sk[sk.length - 1].idx := by omega
          rw [h4, h3, endP_last, List.getLast?_eq_getElem?, h1]
      rw [e2] at e4
      simp at e4
      rw [e4]
      rw [hsplit, fitP_append, Bool.and_eq_true] at hf
      have e5 := fitP_end hf.1
      rw [← hdrop, ← e5.1]
      exact hf.2
    · exact .inr ⟨sk.length, by omega, hes', by rw [← hdrop, hfr]; simp, by omega, by rw [← hdrop, hfr]⟩

end Go.Proofs.Ytpefhojmfcenfaa.logs
