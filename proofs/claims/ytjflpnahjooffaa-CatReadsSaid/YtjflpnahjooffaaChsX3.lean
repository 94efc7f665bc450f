/- What was handed in, by kinds: small facts. -/
import Derived.Test.YtjflpnahjooffaaChsX2
import Derived.Test.YtjflpnahjooffaaChsO3
set_option linter.unusedSimpArgs false
set_option linter.unusedVariables false
namespace Go.Ahs
theorem wfU8 {n : Int} (h : (Lit.int .u8 n).wf = true) : 0 ≤ n ∧ n ≤ 255 := by
 simp [Lit.wf, IntKind.min, IntKind.max, IntKind.signed, IntKind.bits] at h
 exact h
theorem wfU64 {n : Int} (h : (Lit.int .u64 n).wf = true) : 0 ≤ n ∧ n ≤ 18446744073709551615 := by
 simp [Lit.wf, IntKind.min, IntKind.max, IntKind.signed, IntKind.bits] at h
 exact h
theorem wfI64 {n : Int} (h : (Lit.int .i64 n).wf = true) : -9223372036854775808 ≤ n ∧ n ≤ 9223372036854775807 := by
 simp [Lit.wf, IntKind.min, IntKind.max, IntKind.signed, IntKind.bits] at h
 exact h
theorem wf_list {α : Type} {H : Heap} {e : Ty} {Q : List AVal → α → Prop} (hq : ∀ x, Wf H e x → ∃ a, Q x a) : ∀ {xs : List (List AVal)}, (∀ x ∈ xs, Wf H e x) → ∃ l : List α, l.length = xs.length ∧ ∀ (i : Nat) (x : List AVal) (a : α), xs[i]? = some x → l[i]? = some a → Q x a
 | [], _ => ⟨[], rfl, fun i x a h _ => by simp at h⟩
 | y :: ys, h => by
  obtain ⟨a, ha⟩ := hq y (h y (by simp))
  obtain ⟨l, h1, h2⟩ := wf_list hq (xs := ys) fun x hx => h x (by simp [hx])
  refine ⟨a :: l, by simp [h1], fun i x b g1 g2 => ?_⟩
  cases i with
  | zero => simp at g1 g2; subst g1 g2; exact ha
  | succ i => exact h2 i x b (by simpa using g1) (by simpa using g2)
theorem wf_eqs {α : Type} {enc : α → List AVal} : ∀ {xs : List (List AVal)} {l : List α}, l.length = xs.length → (∀ (i : Nat) (x : List AVal) (a : α), xs[i]? = some x → l[i]? = some a → x = enc a) → xs = l.map enc
 | [], [], _, _ => rfl
 | x :: xs, a :: l, hl, h => by
  rw [h 0 x a rfl rfl, wf_eqs (xs := xs) (l := l) (by simpa using hl) fun i y b g1 g2 => h (i + 1) y b (by simpa using g1) (by simpa using g2)]
  rfl
theorem isTrue_run {ap : FuncId → Option AFn} {n lim : Nat} {f : FuncId} {args : List AVal} {H : Heap} (h : ∃ v H', runT ap n lim (.fn f) args H = some (v, H') ∧ v = .bool true) : isTrue (run ap n lim f args H) = true := by
 obtain ⟨v, H', h1, rfl⟩ := h
 unfold run
 rw [h1]; rfl
end Go.Ahs
