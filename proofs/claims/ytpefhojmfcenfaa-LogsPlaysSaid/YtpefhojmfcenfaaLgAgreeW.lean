/- LogsAgree's call. -/
import Derived.Test.YtpefhojmfcenfaaLgAgree
set_option maxRecDepth 100000
namespace Go.Proofs.Ytpefhojmfcenfaa.logs
open Go.Ahs

theorem wf_bytes {H : Heap} {v : AVal} (h : ∃ xs, Sl H (Ty.int .u8 .nil).size v xs ∧ xs.length ≤ maxLen ∧ ∀ x ∈ xs, Wf H (.int .u8 .nil) x) : ∃ rs : List Nat, Bs H v rs ∧ rs.length ≤ maxLen ∧ ∀ r ∈ rs, r < 256 := by
  obtain ⟨xs, h1, h2, h3⟩ := h
  have key : ∀ ys : List (List AVal), (∀ x ∈ ys, Wf H (.int .u8 .nil) x) → ∃ rs : List Nat, ys = rs.map (fun r : Nat => [AVal.int .u8 (r : Int)]) ∧ ∀ r ∈ rs, r < 256 := by
    intro ys
    induction ys with
    | nil => intro _; exact ⟨[], rfl, fun _ h => by simp at h⟩
    | cons y ys ih =>
      intro hy
      obtain ⟨n, _, h4, hn, h5⟩ := hy y (by simp)
      obtain ⟨r, rfl, hr⟩ := wfU8 hn
      cases h5
      obtain ⟨rs, hrs, hok⟩ := ih (fun x hx => hy x (by simp [hx]))
      exact ⟨r :: rs, by rw [h4, hrs]; rfl, fun r' hr' => by
        rcases List.mem_cons.1 hr' with rfl | hr'
        · exact hr
        · exact hok r' hr'⟩
  obtain ⟨rs, rfl, hok⟩ := key xs h3
  exact ⟨rs, h1, by simpa using h2, hok⟩

theorem maxLen_eq : maxLen = 9223372036854775807 := rfl

theorem arg_u64 {H : Heap} {a : AVal} (h : if false = true then ∃ cs, a = .agg cs ∧ Wf H (.int .u64 .nil) cs else Wf H (.int .u64 .nil) [a]) : ∃ i : Nat, a = .int .u64 (i : Int) ∧ i < 18446744073709551616 := by
  obtain ⟨n, _, h1, h2, h3⟩ := h
  obtain ⟨i, rfl, hi⟩ := wfU64 h2
  simp at h1
  exact ⟨i, h1.1, hi⟩
theorem arg_u8 {H : Heap} {a : AVal} (h : if false = true then ∃ cs, a = .agg cs ∧ Wf H (.int .u8 .nil) cs else Wf H (.int .u8 .nil) [a]) : ∃ i : Nat, a = .int .u8 (i : Int) ∧ i < 256 := by
  obtain ⟨n, _, h1, h2, h3⟩ := h
  obtain ⟨i, rfl, hi⟩ := wfU8 h2
  simp at h1
  exact ⟨i, h1.1, hi⟩
theorem arg_ents {H : Heap} {a : AVal} (h : if false = true then ∃ cs, a = .agg cs ∧ Wf H (.slice entTy .nil) cs else Wf H (.slice entTy .nil) [a]) : ∃ es, Es H a es ∧ es.length ≤ maxLen ∧ ∀ e ∈ es, e.ok := by
  obtain ⟨v, _, h1, _, h2, _⟩ := h
  simp at h1
  rw [h1.1]
  exact wf_ents h2
theorem arg_bytes {H : Heap} {a : AVal} (h : if false = true then ∃ cs, a = .agg cs ∧ Wf H (.slice (.int .u8 .nil) .nil) cs else Wf H (.slice (.int .u8 .nil) .nil) [a]) : ∃ rs : List Nat, Bs H a rs ∧ rs.length ≤ maxLen ∧ ∀ r ∈ rs, r < 256 := by
  obtain ⟨v, _, h1, _, h2, _⟩ := h
  simp at h1
  rw [h1.1]
  exact wf_bytes h2

theorem isTrue_of {n F : Nat} {vs : List AVal} {H : Heap} {k : Nat} (h : ∃ r H', Ahs.runT ap (n + k) H.next (.fn F) vs H = some (r, H') ∧ r = .bool true) : ∃ n, isTrue (run ap n H.next F vs H) = true := by
  obtain ⟨r, H', h1, rfl⟩ := h
  exact ⟨n + k, by show isTrue (Ahs.runT ap (n + k) H.next (.fn F) vs H) = true; rw [h1]; rfl⟩

theorem len_lt {α : Type} {l : List α} (h : l.length ≤ maxLen) : l.length < 9223372036854775808 := by rw [maxLen_eq] at h; omega

theorem agree_walk (H : Heap) (vs : List AVal) (h : WfArgs H [(false, .int .u64 .nil), (false, .int .u64 .nil), (false, .int .u8 .nil), (false, .slice entTy .nil), (false, .slice entTy .nil), (false, .slice (.int .u8 .nil) .nil), (false, .slice (.int .u8 .nil) .nil), (false, .int .u8 .nil), (false, .int .u8 .nil)] vs) :
    ∃ n, isTrue (run ap n H.next 3 vs H) = true := by
  obtain ⟨a0, _, rfl, h0, a1, _, rfl, h1, a2, _, rfl, h2, a3, _, rfl, h3, a4, _, rfl, h4, a5, _, rfl, h5, a6, _, rfl, h6, a7, _, rfl, h7, a8, _, rfl, h8, rfl⟩ := h
  obtain ⟨i, rfl, hi⟩ := arg_u64 h0
  obtain ⟨t, rfl, ht⟩ := arg_u64 h1
  obtain ⟨mb, rfl, _⟩ := arg_u8 h2
  obtain ⟨l, hl, _, okl⟩ := arg_ents h3
  obtain ⟨m, hm, _, okm⟩ := arg_ents h4
  obtain ⟨rs, hr, hrl, _⟩ := arg_bytes h5
  obtain ⟨os, ho, hol, _⟩ := arg_bytes h6
  obtain ⟨fm, rfl, hfm⟩ := arg_u8 h7
  obtain ⟨mn, rfl, hmn⟩ := arg_u8 h8
  exact isTrue_of (n := 0) (k := 100) (agree hl hm hr ho okl okm hrl hol (Nat.le_refl _) hi ht hfm hmn)
end Go.Proofs.Ytpefhojmfcenfaa.logs
