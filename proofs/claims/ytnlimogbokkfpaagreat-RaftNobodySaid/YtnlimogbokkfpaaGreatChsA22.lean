/- Functions of small whole numbers alone: what they give, checked number by number. -/
import Derived.Test.YtnlimogbokkfpaaGreatChsA21
set_option linter.unusedSimpArgs false
set_option linter.unusedVariables false
namespace Go.Ahs
def eqBare : AVal → AVal → Bool
 | .int k a, .int k' b => decide (k = k') && a == b
 | .bool a, .bool b => a == b
 | _, _ => false
def eqBares : List AVal → List AVal → Bool
 | [], [] => true
 | a :: as, b :: bs => eqBare a b && eqBares as bs
 | _, _ => false
def eqFlat : AVal → AVal → Bool
 | .tup as, .tup bs => eqBares as bs
 | a, b => eqBare a b
theorem eqBare_eq {a b : AVal} (h : eqBare a b = true) : a = b := by
 cases a <;> cases b <;> simp [eqBare] at h
 ·obtain ⟨rfl, rfl⟩ := h; rfl
 ·subst h; rfl
theorem eqBares_eq : ∀ {as bs : List AVal}, eqBares as bs = true → as = bs
 | [], [], _ => rfl
 | a :: as, b :: bs, h => by
  simp only [eqBares, Bool.and_eq_true] at h
  rw [eqBare_eq h.1, eqBares_eq h.2]
 | [], _ :: _, h => by simp [eqBares] at h
 | _ :: _, [], h => by simp [eqBares] at h
theorem eqFlat_eq {a b : AVal} (h : eqFlat a b = true) : a = b := by
 unfold eqFlat at h
 split at h
 ·rw [eqBares_eq h]
 ·exact eqBare_eq h
def okAt (r : Option (AVal × Heap)) (v : AVal) : Bool :=
 match r with
 | some (u, _) => eqFlat u v
 | none => false
theorem okAt_eq {r : Option (AVal × Heap)} {v : AVal} (h : okAt r v = true) : ∃ H, r = some (v, H) := by
 unfold okAt at h
 split at h
 ·rename_i u H
  exact ⟨H, by rw [eqFlat_eq h]⟩
 ·simp at h
def allBelow (p : Nat → Bool) : Nat → Bool
 | 0 => true
 | n + 1 => p n && allBelow p n
theorem allBelow_get {p : Nat → Bool} : ∀ {n : Nat}, allBelow p n = true → ∀ i, i < n → p i = true
 | 0, _, i, hi => by omega
 | n + 1, h, i, hi => by
  simp only [allBelow, Bool.and_eq_true] at h
  by_cases e : i = n
  ·subst e; exact h.1
  ·exact allBelow_get h.2 i (by omega)
def byte : AVal → Option Nat
 | .int .u8 x => if 0 ≤ x ∧ x < 256 then some x.toNat else none
 | _ => none
theorem byte_inv {v : AVal} {n : Nat} (h : byte v = some n) : v = .int .u8 n ∧ n < 256 := by
 unfold byte at h
 split at h
 ·split at h <;> simp at h
  rename_i x hx
  obtain ⟨h1, h2⟩ := hx
  refine ⟨?_, by omega⟩
  congr 1
  omega
 ·simp at h
theorem byte_nat {n : Nat} (h : n < 256) : byte (.int .u8 n) = some n := by
 have : (0 : Int) ≤ (n : Int) ∧ (n : Int) < 256 := ⟨by omega, by omega⟩
 simp only [byte, this, and_self, if_true, Int.toNat_natCast]
def prim1 (g : Nat → AVal) : Nat → List AVal → Heap → Option (AVal × Heap) := fun _ args H =>
 match args with
 | [a] => (byte a).map fun x => (g x, H)
 | _ => none
def prim2 (g : Nat → Nat → AVal) : Nat → List AVal → Heap → Option (AVal × Heap) := fun _ args H =>
 match args with
 | [a, b] => (byte a).bind fun x => (byte b).map fun y => (g x y, H)
 | _ => none
theorem prim1_free (g : Nat → AVal) (args : List AVal) : FreeOut fun lim H => prim1 g lim args H := by
 intro lim H v H' h
 unfold prim1 at h ⊢
 split at h
 ·simp only [Option.map_eq_some_iff] at h
  obtain ⟨x, hx, h2⟩ := h
  simp at h2; obtain ⟨rfl, rfl⟩ := h2
  exact ⟨rfl, fun _ _ => by simp [hx]⟩
 ·simp at h
theorem prim2_free (g : Nat → Nat → AVal) (args : List AVal) : FreeOut fun lim H => prim2 g lim args H := by
 intro lim H v H' h
 unfold prim2 at h ⊢
 split at h
 ·simp only [Option.bind_eq_some_iff, Option.map_eq_some_iff] at h
  obtain ⟨x, hx, y, hy, h2⟩ := h
  simp at h2; obtain ⟨rfl, rfl⟩ := h2
  exact ⟨rfl, fun _ _ => by simp [hx, hy]⟩
 ·simp at h
theorem closed_free (v0 : AVal) (args : List AVal) : FreeOut fun (_ : Nat) H => (match args with | [] => some (v0, H) | _ => none : Option (AVal × Heap)) := by
 intro lim H v H' h
 simp only at h ⊢
 split at h <;> simp at h
 obtain ⟨rfl, rfl⟩ := h
 exact ⟨rfl, fun _ _ => rfl⟩
section
variable {P : Program} {ap : FuncId → Option AFn} {S : FuncId → Bool}
theorem PrimOK.fin1 (hP : P.follows .mixedOrders = true) (hap : ∀ f af, ap f = some af → FnOK P f af) (hS : ∀ f, S f = true → ∃ af, ap f = some af ∧ FreeFn S af) {f : FuncId} (hf : S f = true) (n : Nat) (g : Nat → AVal)
  (h : allBelow (fun x => okAt (run ap n 0 f [.int .u8 x] Heap.empty) (g x)) 256 = true) : PrimOK P f (prim1 g) := by
 obtain ⟨af, haf, _⟩ := hS f hf
 refine PrimOK.of_run hP hap haf fun lim args H v H' hg => ⟨n, ?_⟩
 unfold prim1 at hg
 split at hg
 ·simp only [Option.map_eq_some_iff] at hg
  obtain ⟨x, hx, h2⟩ := hg
  simp at h2; obtain ⟨rfl, rfl⟩ := h2
  obtain ⟨rfl, hx'⟩ := byte_inv hx
  obtain ⟨H0, h0⟩ := okAt_eq (allBelow_get h x hx')
  exact (free_run hS n f _ hf 0 Heap.empty _ H0 h0).2 lim H
 ·simp at hg
theorem PrimOK.fin2 (hP : P.follows .mixedOrders = true) (hap : ∀ f af, ap f = some af → FnOK P f af) (hS : ∀ f, S f = true → ∃ af, ap f = some af ∧ FreeFn S af) {f : FuncId} (hf : S f = true) (n : Nat) (g : Nat → Nat → AVal)
  (h : allBelow (fun x => allBelow (fun y => okAt (run ap n 0 f [.int .u8 x, .int .u8 y] Heap.empty) (g x y)) 256) 256 = true) : PrimOK P f (prim2 g) := by
 obtain ⟨af, haf, _⟩ := hS f hf
 refine PrimOK.of_run hP hap haf fun lim args H v H' hg => ⟨n, ?_⟩
 unfold prim2 at hg
 split at hg
 ·simp only [Option.bind_eq_some_iff, Option.map_eq_some_iff] at hg
  obtain ⟨x, hx, y, hy, h2⟩ := hg
  simp at h2; obtain ⟨rfl, rfl⟩ := h2
  obtain ⟨rfl, hx'⟩ := byte_inv hx
  obtain ⟨rfl, hy'⟩ := byte_inv hy
  obtain ⟨H0, h0⟩ := okAt_eq (allBelow_get (allBelow_get h x hx') y hy')
  exact (free_run hS n f _ hf 0 Heap.empty _ H0 h0).2 lim H
 ·simp at hg
def over (l : List (Nat × AFn)) (ap : FuncId → Option AFn) : FuncId → Option AFn := fun f => match l.lookup f with
 | some x => some x
 | none => ap f
theorem over_ok {l : List (Nat × AFn)} (hl : AllOK P l) (hap : ∀ f af, ap f = some af → FnOK P f af) : ∀ f af, over l ap f = some af → FnOK P f af := by
 intro f af h
 unfold over at h
 split at h
 ·rename_i x hx
  simp at h; subst h
  exact tab_ok hl f x hx
 ·exact hap f af h
theorem free_list {L : List Nat} (h : ∀ f ∈ L, ∃ af, ap f = some af ∧ FreeFn (fun f => L.contains f) af) : ∀ f, L.contains f = true → ∃ af, ap f = some af ∧ FreeFn (fun f => L.contains f) af :=
 fun f hf => h f (by simpa using hf)
end
end Go.Ahs
