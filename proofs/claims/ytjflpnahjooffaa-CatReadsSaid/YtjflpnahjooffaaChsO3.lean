/- A law whose arguments are whole numbers, bools and strings: over the empty heap. -/
import Derived.Test.YtjflpnahjooffaaChsO2
set_option linter.unusedSimpArgs false
set_option linter.unusedVariables false
namespace Go.Ahs
def flatV : AVal → Bool
 | .int _ _ | .bool _ | .str _ => true
 | _ => false
theorem VRel.plainV {ρ ρ' : Mp} {v : AVal} {v' : Value} (h : VRel ρ v v') (hf : flatV v = true) : VRel ρ' v v' := by
 cases h <;> simp [flatV] at hf
 ·exact .int _ _
 ·exact .bool _
 ·rename_i e; exact .str e
theorem LRel.plainV {ρ ρ' : Mp} {vs : List AVal} {vs' : List Value} (h : LRel ρ vs vs') (hf : vs.all flatV = true) : LRel ρ' vs vs' :=
 ⟨h.1, fun i v v' e e' => (h.2 i v v' e e').plainV (List.all_eq_true.1 hf v (List.mem_of_getElem? e))⟩
section
variable {P : Program} {D : Type} {enc : TypeId × Value → D} {w : World} {r : Reach} {base : Nat}
open Go.RowKit in
theorem law_calls0 {ap : FuncId → Option AFn} (hP : P.follows .mixedOrders = true) (hap : ∀ f af, ap f = some af → FnOK P f af) {f : Nat} {ts : List TypeId} {us : List (Bool × Ty)} {args : Array Value} {ds : List (DataW D)} {ps : List MemPlace}
  (hu : tysOf P ts = some us) (hval : ∀ (j : Nat) t v, ts[j]? = some t → args[j]? = some v → Value.okWide P w r base t v) (hA : DataW.TrodAll enc P w 0 (fun _ => true) true ts args.toList ds ps)
  (walk : ∀ (H : Heap) (as : List AVal), WfArgs H us as → as.all flatV = true ∧ ∃ n, isTrue (run ap n 0 f as Heap.empty) = true) :
  Calls P f args w fun e w' => e = .returned (.bool true) ∧ Below w.heap.size w w' := by
 obtain ⟨ρ, H, as, _, _, hr, hl, hw⟩ := open_args (fun _ => rfl) ts us args.toList ds ps hu (fun j t v h h' => hval j t v h (by simpa using h')) hA _ _ (RelIn.empty P w)
 obtain ⟨hf, n, hn⟩ := walk H as hw
 exact calls_true (H := Heap.empty) hP hap hn (Rel.empty _ w) (fun _ _ => rfl) (hl.plainV hf)
end
end Go.Ahs
