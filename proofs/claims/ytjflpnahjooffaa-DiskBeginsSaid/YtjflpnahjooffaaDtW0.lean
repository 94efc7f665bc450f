/- What each function comes to, as one formula; printed by genw.py. -/
import Derived.Test.YtjflpnahjooffaaDtAp
import Derived.Test.YtjflpnahjooffaaChsW1
set_option maxRecDepth 100000
set_option linter.unusedVariables false
namespace Go.Proofs.Ytjflpnahjooffaa.disktw
open Go.Ahs
def z5cbe97 : List AVal := [(.map none), (.bool false), (.int .i64 0)]
def F79 (R : Caller) (lim n : Nat) (K : AVal → Heap → Prop) (a0 : AVal) (H : Heap) : Prop :=
bindP (eqvO false .ptr a0 (.ptr none)) fun v1 =>
bindP (gd (some (v1, false)) (some a0)) fun v2 =>
bindP (gd (some (v1, false)) (nilO v2)) fun v3 =>
bindP (gd (some (v1, false)) (faddrO 0 v3)) fun v4 =>
bindP (gd (some (v1, false)) (aload H none v4)) fun v5 =>
bindP (gd (some (v1, false)) (eqvO false .map v5 (.map none))) fun v6 =>
bindP (pickO v1 (.bool true) v6) fun v7 =>
K v7 H
def F79_Lp (R : Caller) (lim n : Nat) (K : AVal → Heap → Prop) : Nat → Tm → Heap → Prop
  | _, _, _ => False
theorem F79_eq (R : Caller) (lim n : Nat) (K : AVal → Heap → Prop) (a0 : AVal) (H : Heap) : F79 R lim n K a0 H = execI R lim n 12 (F79_Lp R lim n K) f79.body (argT [a0]) H (retW [(.tmp 2)] K) := by kernel_rfl
theorem F79_ob (R : Caller) (lim n : Nat) (K : AVal → Heap → Prop) : Oblig R lim n 12 (F79_Lp R lim n K) f79.body (retW [(.tmp 2)] K) := (oblig_nl (by kernel_rfl))
theorem F79_run {ap : FuncId → Option AFn} (hf : ap 79 = some (.code f79)) {n lim : Nat} {K : AVal → Heap → Prop} {a0 : AVal} {H : Heap} (h : F79 (Ahs.runT ap n) lim n K a0 H) : ∃ v H', Ahs.runT ap (n + 1) lim (.fn 79) [a0] H = some (v, H') ∧ K v H' := by
  rw [F79_eq] at h
  exact run_of_W hf (by kernel_rfl) (by kernel_rfl) (execI_sound f79.body _ _ _ _ (F79_ob _ _ _ K) (fun _ _ _ h => h) h)
def F100 (R : Caller) (lim n : Nat) (K : AVal → Heap → Prop) (a0 : AVal) (H : Heap) : Prop :=
bindP (eqvO false .sl a0 (.sl none 0 (.ex 0))) fun v1 =>
bindP (boolOf v1) fun b2 =>
(b2 = true → (K (.sl none 0 (.ex 0)) H)) ∧
(b2 = false → (bind2 ((fillV [] []).map fun cs => (.sl (some (H.next, 0)) 0 (.ex 0), H.push (.cells cs))) fun v3 H4 =>
bind2 (aappend lim H4 [(.str [])] 16 false v3 a0) fun v5 H6 =>
K v5 H6))
def F100_Lp (R : Caller) (lim n : Nat) (K : AVal → Heap → Prop) : Nat → Tm → Heap → Prop
  | _, _, _ => False
theorem F100_eq (R : Caller) (lim n : Nat) (K : AVal → Heap → Prop) (a0 : AVal) (H : Heap) : F100 R lim n K a0 H = execI R lim n 8 (F100_Lp R lim n K) f100.body (argT [a0]) H (retW [(.tmp 2)] K) := by kernel_rfl
theorem F100_ob (R : Caller) (lim n : Nat) (K : AVal → Heap → Prop) : Oblig R lim n 8 (F100_Lp R lim n K) f100.body (retW [(.tmp 2)] K) := (oblig_nl (by kernel_rfl))
theorem F100_run {ap : FuncId → Option AFn} (hf : ap 100 = some (.code f100)) {n lim : Nat} {K : AVal → Heap → Prop} {a0 : AVal} {H : Heap} (h : F100 (Ahs.runT ap n) lim n K a0 H) : ∃ v H', Ahs.runT ap (n + 1) lim (.fn 100) [a0] H = some (v, H') ∧ K v H' := by
  rw [F100_eq] at h
  exact run_of_W hf (by kernel_rfl) (by kernel_rfl) (execI_sound f100.body _ _ _ _ (F100_ob _ _ _ K) (fun _ _ _ h => h) h)
end Go.Proofs.Ytjflpnahjooffaa.disktw
