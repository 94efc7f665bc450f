/- Ranges over a function: the rounds, told by formulas. -/
import Derived.Test.YtpefhojmfcenfaaBhsW3
set_option linter.unusedSimpArgs false
set_option linter.unusedVariables false
namespace Go.Ahs

theorem exec_ranges {R : Caller} {lim n : Nat} {g : Opd} {ps : List Nat} {A B : ACode} {l : List AVal} {H H' : Heap} {f : FuncId} {first cap : List AVal} {v : AVal} {st : LoopState} {pd : Option Ex} {t : List AVal} {q : List Nat} {a c : ACode} {ex : Ex}
    (hp : (A.plain && B.plain) = true) (hg : St.ev l g = .fn f first cap) (hr : R lim (.fn f) (first ++ [.yl H.next] ++ cap) (H.push (.loop ⟨.ready, none, l, ps, A, B⟩)) = some (v, H'))
    (hL : H'.get H.next = some (.loop ⟨st, pd, t, q, a, c⟩)) (hs : (st = .ready ∧ pd = none ∧ ex = .norm) ∨ (st = .done ∧ pd = some ex)) :
    exec R lim n (.ranges g ps A B) ⟨l, H⟩ = some (ex, ⟨l, H'.set H.next .dead⟩) := by
  simp only [exec, hp, if_true, hg, hr, hL]
  rcases hs with ⟨rfl, rfl, rfl⟩ | ⟨rfl, rfl⟩
  · rfl
  · rfl

theorem putAll_len : ∀ (ps : List Nat) (l args : List AVal), (putAll l ps args).length = l.length
  | [], l, args => by simp [putAll]
  | p :: ps, l, [] => by simp [putAll]
  | p :: ps, l, x :: args => by
    have := putAll_len ps (l.set p x) args
    simp only [putAll, List.zip_cons_cons, List.foldl_cons] at this ⊢
    rw [this, List.length_set]

/-- What a round of a range over a function gives. -/
def roundEnd (b : Nat) (l : List AVal) (ps : List Nat) (A B : ACode) (H2 : Heap) : Ex → AVal × Heap
  | .norm => (.bool true, H2.set b (.loop ⟨.ready, none, l, ps, A, B⟩))
  | e => (.bool false, H2.set b (.loop ⟨.done, some e, l, ps, A, B⟩))

theorem round_run {ap : FuncId → Option AFn} {n lim b N : Nat} {l : List AVal} {q : Option Ex} {ps : List Nat} {A B : ACode} {args : List AVal} {H : Heap} (hget : H.get b = some (.loop ⟨.ready, q, l, ps, A, B⟩)) (hb : lim ≤ b) (hlen : args.length = ps.length) (hl : l.length = N)
    (hA : A.bound N = true) (hB : B.bound N = true) {KB : Ex → Heap → Prop}
    (h : execW (Ahs.runT ap n) lim n N A (tmT (putAll l ps args)) H (fun ex T H1 => ex = .norm ∧ H1.get b = some (.loop ⟨.ready, q, l, ps, A, B⟩) ∧
      execW (Ahs.runT ap n) lim n N B T (H1.set b (.loop ⟨.busy, q, l, ps, A, B⟩)) (fun e _ H2 => H2.get b = some (.loop ⟨.busy, q, l, ps, A, B⟩) ∧ KB e H2))) :
    ∃ e H2, KB e H2 ∧ H2.get b = some (.loop ⟨.busy, q, l, ps, A, B⟩) ∧ Ahs.runT ap (n + 1) lim (.yl b) args H = some (roundEnd b l ps A B H2 e) := by
  obtain ⟨ex, l1, H1, h1, h2, rfl, h3, h4⟩ := execW_run A (putAll l ps args) H _ hA (by rw [putAll_len, hl]) h
  obtain ⟨e, l2, H2, g1, g2, g3, g4⟩ := execW_run B l1 _ _ hB h2 h4
  refine ⟨e, H2, g4, g3, ?_⟩
  simp only [Ahs.runT, roundF, hget]
  rw [if_pos ⟨hb, hlen⟩]
  simp only [h1, h3, g1, g3]
  cases e <;> rfl

end Go.Ahs
