/- From the abstract machine's answer to the model's call. -/
import Derived.Test.YtnlimogbokkfpaaGreatChsB1
import Derived.Below
set_option linter.unusedSimpArgs false
set_option linter.unusedVariables false
namespace Go.Ahs
open Go.RowKit
def isTrue : Option (AVal × Heap) → Bool
 | some (.bool true, _) => true
 | _ => false
theorem isTrue_inv {r : Option (AVal × Heap)} (h : isTrue r = true) : ∃ H', r = some (.bool true, H') := by
 unfold isTrue at h
 split at h
 ·exact ⟨_, rfl⟩
 ·simp at h
theorem calls_true {P : Program} {ap : FuncId → Option AFn} (hP : P.follows .mixedOrders = true) (hap : ∀ f af, ap f = some af → FnOK P f af) {n f : Nat} {args : List AVal} {H : Heap}
  (h : isTrue (run ap n H.next f args H) = true) {w : World} {args' : Array Value} {ρ : Mp} (hr : Rel P H.next ρ H w) (hd : ∀ b, H.next ≤ b → ρ b = none) (ha : LRel ρ args args'.toList) :
  Calls P f args' w fun e w' => e = .returned (.bool true) ∧ Below w.heap.size w w' := by
 obtain ⟨H', h⟩ := isTrue_inv h
 obtain ⟨_, hc⟩ := run_sim hP hap n H.next H.next (.fn f) args H _ _ h
 refine (hc ρ w args' (Nat.le_refl _) (Nat.le_refl _) (fun b hb _ => hd b hb) hr ha).mono ?_
 rintro e w' ⟨v', ρ', rfl, hv, hp⟩
 cases hv
 exact ⟨rfl, hp.rest.1, hp.rest.2.1, hp.rest.2.2, hp.size, fun k hk => hp.frame k hk fun b L g1 g2 => by omega⟩
theorem calls_closed {P : Program} {ap : FuncId → Option AFn} (hP : P.follows .mixedOrders = true) (hap : ∀ f af, ap f = some af → FnOK P f af) {n f : Nat}
  (h : isTrue (run ap n 0 f [] Heap.empty) = true) (w : World) : Calls P f #[] w fun e w' => e = .returned (.bool true) ∧ Below w.heap.size w w' :=
 calls_true (H := Heap.empty) hP hap h (Rel.empty _ w) (fun _ _ => rfl) (LRel.nil _)
def tab (l : List (Nat × AFn)) : FuncId → Option AFn := fun f => l.lookup f
def AllOK (P : Program) : List (Nat × AFn) → Prop
 | [] => True
 | p :: l => FnOK P p.1 p.2 ∧ AllOK P l
theorem tab_ok {P : Program} : ∀ {l : List (Nat × AFn)}, AllOK P l → ∀ f af, tab l f = some af → FnOK P f af
 | [], _, f, af, h => by simp [tab] at h
 | p :: l, ⟨h1, h2⟩, f, af, h => by
  unfold tab at h
  rw [List.lookup_cons] at h
  split at h
  ·rename_i e
   simp at h e
   subst e h; exact h1
  ·exact tab_ok h2 f af h
end Go.Ahs
