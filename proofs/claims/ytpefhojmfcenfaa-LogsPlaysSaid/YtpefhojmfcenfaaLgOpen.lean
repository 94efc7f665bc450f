/- Entries that were handed in. -/
import Derived.Test.YtpefhojmfcenfaaLgEnt
import Derived.Test.YtpefhojmfcenfaaBhsO2
set_option maxRecDepth 100000
set_option linter.unusedVariables false
set_option linter.unusedSimpArgs false
namespace Go.Proofs.Ytpefhojmfcenfaa.logs
open Go.Ahs

def entTy : Ty := .int .u64 (.int .u64 (.int .u8 (.int .u8 (.int .u8 (.int .u8 (.int .u8 (.int .u8 (.int .u8 (.int .u8 (.int .u8 (.int .u8 (.str .nil))))))))))))

theorem wfU64 {n : Int} (h : (Lit.int .u64 n).wf = true) : ∃ m : Nat, n = (m : Int) ∧ m < 18446744073709551616 := by
  have h' : (0 : Int) ≤ n ∧ n ≤ 18446744073709551615 := by
    simp [Lit.wf, IntKind.min, IntKind.max, IntKind.signed, IntKind.bits] at h
    exact h
  exact ⟨n.toNat, by omega, by omega⟩
theorem wfU8 {n : Int} (h : (Lit.int .u8 n).wf = true) : ∃ m : Nat, n = (m : Int) ∧ m < 256 := by
  have h' : (0 : Int) ≤ n ∧ n ≤ 255 := by
    simp [Lit.wf, IntKind.min, IntKind.max, IntKind.signed, IntKind.bits] at h
    exact h
  exact ⟨n.toNat, by omega, by omega⟩

/-- An entry of numbers in their ranges. -/
structure Ent.ok (e : Ent) : Prop where
  idx : e.idx < 18446744073709551616
  term : e.term < 18446744073709551616
  kind : e.kind < 256

theorem wf_ent {H : Heap} {x : List AVal} (h : Wf H entTy x) : ∃ e : Ent, x = enc e ∧ e.ok := by
  obtain ⟨i, _, rfl, hi, t, _, rfl, ht, k, _, rfl, hk, s0, _, rfl, _, s1, _, rfl, _, s2, _, rfl, _, s3, _, rfl, _, s4, _, rfl, _, s5, _, rfl, _, s6, _, rfl, _, s7, _, rfl, _, s8, _, rfl, _, b, _, rfl, _, rfl⟩ := h
  obtain ⟨i, rfl, hi'⟩ := wfU64 hi
  obtain ⟨t, rfl, ht'⟩ := wfU64 ht
  obtain ⟨k, rfl, hk'⟩ := wfU8 hk
  exact ⟨⟨i, t, k, s0, s1, s2, s3, s4, s5, s6, s7, s8, b⟩, rfl, hi', ht', hk'⟩

theorem wf_ents {H : Heap} {v : AVal} (h : ∃ xs, Sl H entTy.size v xs ∧ xs.length ≤ maxLen ∧ ∀ x ∈ xs, Wf H entTy x) : ∃ es, Es H v es ∧ es.length ≤ maxLen ∧ ∀ e ∈ es, e.ok := by
  obtain ⟨xs, h1, h2, h3⟩ := h
  have key : ∀ ys : List (List AVal), (∀ x ∈ ys, Wf H entTy x) → ∃ es : List Ent, ys = es.map enc ∧ ∀ e ∈ es, e.ok := by
    intro ys
    induction ys with
    | nil => intro _; exact ⟨[], rfl, fun _ h => by simp at h⟩
    | cons y ys ih =>
      intro hy
      obtain ⟨e, he, hok⟩ := wf_ent (hy y (by simp))
      obtain ⟨es, hes, hoks⟩ := ih (fun x hx => hy x (by simp [hx]))
      exact ⟨e :: es, by rw [he, hes]; rfl, fun e' he' => by
        rcases List.mem_cons.1 he' with rfl | he'
        · exact hok
        · exact hoks e' he'⟩
  obtain ⟨es, rfl, hok⟩ := key xs h3
  exact ⟨es, h1, by simpa using h2, hok⟩

end Go.Proofs.Ytpefhojmfcenfaa.logs
