/- strings.Repeat, out of the library's contract. -/
import Derived.Test.YtfigbgjbaohglaaGreatDoorChsK1
import Derived.Lib.Repeat
set_option linter.unusedSimpArgs false
set_option linter.unusedVariables false
namespace Go.Ahs
open Go.RowKit

def gRepeat : Nat → List AVal → Heap → Option (AVal × Heap) := fun _ args H =>
  match args with
  | [.str s, .int .i64 c] => if 0 ≤ c ∧ s.length * c.toNat ≤ 140737488355328 ∧ c.toNat ≤ 140737488355328 then some (.str (Lib.repeatL s c.toNat), H) else none
  | _ => none

theorem repeat_ok {P : Program} {f : FuncId} (hfn : ∃ fn, P.funcs[f]? = some fn ∧ fn.body.isSome = true ∧ (fn.name == "runtime.NumGoroutine") = false)
    (hrep : ∀ (s : ByteArray) (c : Nat) (w : World), c ≤ 9223372036854775807 → s.size * c ≤ 140737488355328 → Calls P f #[.string s, .int .i64 c] w fun e w' => e = .returned (.string ⟨(Lib.repeatL s.data.toList c).toArray⟩) ∧ Below w.heap.size w w') : PrimOK P f gRepeat where
  keeps := fun lim args H v H' hl h => by
    unfold gRepeat at h
    split at h
    · split at h <;> simp at h
      obtain ⟨_, rfl⟩ := h
      exact ⟨Nat.le_refl _, fun _ _ => rfl⟩
    · simp at h
  fn := hfn
  calls := fun n0 lim args H v H' h ρ w args' hl hlim hfr hr ha => by
    unfold gRepeat at h
    split at h
    case h_2 => simp at h
    rename_i s c
    split at h <;> simp at h
    rename_i hc
    obtain ⟨rfl, rfl⟩ := h
    obtain ⟨hc0, hc1, hc2⟩ := hc
    obtain ⟨s', e1, e2⟩ : ∃ s' : ByteArray, args'.toList = [.string s', .int .i64 c] ∧ s'.data.toList = s := by
      match hh : args'.toList, ha with
      | [], ha => have := ha.1; simp at this
      | [_], ha => have := ha.1; simp at this
      | _ :: _ :: _ :: _, ha => have := ha.1; simp at this
      | [a, b], ha =>
        have h1 := ha.head
        have h2 := ha.tail.head
        cases h1 with
        | str e => cases h2 with
          | int => exact ⟨_, rfl, e⟩
    obtain rfl : args' = #[.string s', .int .i64 c] := by
      have : args' = args'.toList.toArray := by simp
      rw [this, e1]
    have hsz : s'.size = s.length := by rw [← e2, Array.length_toList]; rfl
    have hcn : ((c.toNat : Nat) : Int) = c := Int.toNat_of_nonneg hc0
    have := hrep s' c.toNat w (by omega) (by rw [hsz]; exact hc1)
    rw [hcn] at this
    refine this.mono ?_
    rintro e w' ⟨rfl, hb⟩
    exact ⟨_, ρ, rfl, .str (show (Lib.repeatL s'.data.toList c.toNat).toArray.toList = _ by rw [e2]), .below hr hb⟩
end Go.Ahs
