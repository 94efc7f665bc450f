/- Slices whose rows nobody writes any more; small equations. -/
import Derived.Test.YtnlimogbokkfpaaGreatChsX1
set_option linter.unusedSimpArgs false
set_option linter.unusedVariables false
namespace Go.Ahs
theorem wrap_i64 {n : Int} (h0 : -9223372036854775808 ≤ n) (h1 : n ≤ 9223372036854775807) : IntKind.i64.wrap n = n := wrap_id h0 h1
theorem wrap_u64 {n : Int} (h0 : 0 ≤ n) (h1 : n ≤ 18446744073709551615) : IntKind.u64.wrap n = n := wrap_id h0 h1
theorem i64_succ {i : Nat} (h : i < 9223372036854775807) : IntKind.i64.wrap ((i : Int) + 1) = ((i + 1 : Nat) : Int) := wrap_i64 (by omega) (by omega)
theorem dT {p : Prop} [Decidable p] (h : p) : decide p = true := decide_eq_true h
theorem dF {p : Prop} [Decidable p] (h : ¬ p) : decide p = false := decide_eq_false h
theorem eqvO_mapS (neg : Bool) (b : Nat) : eqvO neg .map (.map (some b)) (.map none) = some (.bool (if neg then !false else false)) := rfl
theorem eqvO_mapN (neg : Bool) : eqvO neg .map (.map none) (.map none) = some (.bool (if neg then !true else true)) := rfl
theorem max_int (k : IntKind) (a b : Int) : aminmax true [.int k a, .int k b] = some (.int k (max a b)) := by
 simp only [aminmax, mmFold, if_true]
 congr 2
 by_cases h : b > a
 ·rw [if_pos h]; omega
 ·rw [if_neg h]; omega
theorem min_int (k : IntKind) (a b : Int) : aminmax false [.int k a, .int k b] = some (.int k (min a b)) := by
 simp only [aminmax, mmFold, if_true, Bool.false_eq_true, if_false]
 congr 2
 by_cases h : b < a
 ·rw [if_pos h]; omega
 ·rw [if_neg h]; omega
theorem cells_ptr (a : Option (Nat × Nat)) : (AVal.ptr a).cells = [AVal.ptr a] := rfl
theorem allOne_ptr (a : Option (Nat × Nat)) : ([AVal.ptr a].all fun v => v.one) = true := rfl
theorem cells_str (s : List UInt8) : (AVal.str s).cells = [AVal.str s] := rfl
theorem allOne_str (s : List UInt8) : ([AVal.str s].all fun v => v.one) = true := rfl
theorem cells_int (k : IntKind) (n : Int) : (AVal.int k n).cells = [AVal.int k n] := rfl
theorem allOne_int (k : IntKind) (n : Int) : ([AVal.int k n].all fun v => v.one) = true := rfl
theorem cells_bool (b : Bool) : (AVal.bool b).cells = [AVal.bool b] := rfl
theorem allOne_bool (b : Bool) : ([AVal.bool b].all fun v => v.one) = true := rfl
theorem cells_map (b : Option Nat) : (AVal.map b).cells = [AVal.map b] := rfl
theorem allOne_map (b : Option Nat) : ([AVal.map b].all fun v => v.one) = true := rfl
theorem cells_sl (a : Option (Nat × Nat)) (n : Nat) (c : Cap) : (AVal.sl a n c).cells = [AVal.sl a n c] := rfl
theorem allOne_sl (a : Option (Nat × Nat)) (n : Nat) (c : Cap) : ([AVal.sl a n c].all fun v => v.one) = true := rfl
theorem cells_fn (f : FuncId) (xs ys : List AVal) : (AVal.fn f xs ys).cells = [AVal.fn f xs ys] := rfl
theorem allOne_fn (f : FuncId) (xs ys : List AVal) : ([AVal.fn f xs ys].all fun v => v.one) = true := rfl
theorem cells_iface (t : TypeId) (v : AVal) : (AVal.iface t v).cells = [AVal.iface t v] := rfl
theorem allOne_iface (t : TypeId) (v : AVal) : ([AVal.iface t v].all fun v => v.one) = true := rfl
theorem boxR : (type_of% @cells_ptr) ∧ (type_of% @allOne_ptr) ∧ (type_of% @cells_str) ∧ (type_of% @allOne_str) ∧ (type_of% @cells_int) ∧ (type_of% @allOne_int) ∧ (type_of% @cells_bool) ∧ (type_of% @allOne_bool) ∧ (type_of% @cells_map) ∧ (type_of% @allOne_map) ∧ (type_of% @cells_sl) ∧ (type_of% @allOne_sl) ∧ (type_of% @cells_fn) ∧ (type_of% @allOne_fn) ∧ (type_of% @cells_iface) ∧ (type_of% @allOne_iface) :=
 ⟨@cells_ptr, @allOne_ptr, @cells_str, @allOne_str, @cells_int, @allOne_int, @cells_bool, @allOne_bool, @cells_map, @allOne_map, @cells_sl, @allOne_sl, @cells_fn, @allOne_fn, @cells_iface, @allOne_iface⟩
theorem aload_keep {H H' : Heap} (hk : Keeps2 H H') {g : Option Nat} {x v : AVal} (h : aload H g x = some v) : aload H' g x = some v := by
 cases x with
 | ptr a =>
  cases a with
  | none => simp [aload] at h
  | some bo =>
   obtain ⟨b, o⟩ := bo
   cases hc : H.cells b with
   | none => simp [aload, hc] at h
   | some cs =>
    have hc' := hk.cells hc
    simp only [aload, hc] at h
    simp only [aload, hc']
    exact h
 | _ => simp [aload] at h
theorem aload_all {H : Heap} {b n : Nat} {cs : List AVal} (h : H.cells b = some cs) (hn : cs.length = n) : aload H (some n) (.ptr (some (b, 0))) = some (.agg cs) := by
 rw [aload_agg h]
 simp only [Ahs.cut, Nat.zero_add, hn, Nat.le_refl, if_true, List.drop_zero, Option.map_some]
 rw [List.take_of_length_le (by omega)]
structure Fz (H : Heap) (sz : Nat) (v : AVal) (xs : List (List AVal)) : Prop where
 each : ∀ x ∈ xs, x.length = sz ∧ x.all (·.one) = true
 at' : (v = .sl none 0 (.ex 0) ∧ xs = []) ∨ ∃ b o c cs, v = .sl (some (b, o)) xs.length c ∧ CapOK c xs.length sz ∧ H.cells b = some cs ∧ o + xs.length * sz ≤ cs.length ∧ (cs.drop o).take (xs.length * sz) = xs.flatten
section
variable {H : Heap} {sz : Nat} {v : AVal} {xs : List (List AVal)}
theorem Fz.nil (H : Heap) (sz : Nat) : Fz H sz (.sl none 0 (.ex 0)) [] := ⟨fun _ h => by simp at h, .inl ⟨rfl, rfl⟩⟩
theorem Fz.sl (h : Fz H sz v xs) : Sl H sz v xs := by
 refine ⟨?_, fun x hx => (h.each x hx).1⟩
 rcases h.at' with ⟨rfl, rfl⟩ | ⟨b, o, c, cs, h1, h2, h3, h4, h5⟩
 ·exact .inl ⟨none, .ex 0, rfl, Nat.le_refl 0, rfl⟩
 ·exact .inr ⟨b, o, c, cs, h1, h2, h3, h4, h5⟩
theorem Fz.one (h : Fz H sz v xs) : v.one = true ∧ v.cells = [v] := by
 rcases h.at' with ⟨rfl, _⟩ | ⟨b, o, c, cs, rfl, _⟩ <;> exact ⟨rfl, rfl⟩
theorem Fz.lt (h : Fz H sz v xs) : ∀ b, slBlk v = some b → b < H.next := by
 intro b hb
 rcases h.at' with ⟨rfl, _⟩ | ⟨b', o, c, cs, rfl, _, h3, _⟩
 ·simp [slBlk] at hb
 ·simp [slBlk] at hb; subst hb; exact Heap.cells_lt h3
theorem Fz.frame {S : Nat → Prop} {H' : Heap} (h : Fz H sz v xs) (hf : Fram S H H') (hn : ∀ b, slBlk v = some b → ¬ S b) : Fz H' sz v xs := by
 refine ⟨h.each, ?_⟩
 rcases h.at' with h1 | ⟨b, o, c, cs, h1, h2, h3, h4, h5⟩
 ·exact .inl h1
 ·exact .inr ⟨b, o, c, cs, h1, h2, hf.cells h3 (hn b (by rw [h1]; rfl)), h4, h5⟩
theorem Fz.keep {H' : Heap} (h : Fz H sz v xs) (hk : Keeps2 H H') : Fz H' sz v xs := h.frame (.of (S := fun _ => False) hk) fun _ _ e => e
theorem Fz.take (h : Fz H sz v xs) {k : Nat} (hk : k ≤ xs.length) : ∃ v', aslice sz v none (some (.int .i64 (k : Int))) none = some v' ∧ Fz H sz v' (xs.take k) ∧ slBlk v' = slBlk v := by
 have each : ∀ x ∈ xs.take k, x.length = sz ∧ x.all (·.one) = true := fun x hx => h.each x (List.mem_of_mem_take hx)
 rcases h.at' with ⟨rfl, rfl⟩ | ⟨b, o, c, cs, rfl, h2, h3, h4, h5⟩
 ·have hk0 : k = 0 := by simpa using hk
  subst hk0
  exact ⟨.sl none 0 (.ex 0), rfl, ⟨each, .inl ⟨rfl, rfl⟩⟩, rfl⟩
 ·have hlen : (xs.take k).length = k := by simp; omega
  have hfl : ∀ ys : List (List AVal), (∀ y ∈ ys, y.length = sz) → ∀ j, (ys.take j).flatten = ys.flatten.take (j * sz) := by
   intro ys
   induction ys with
   | nil => intro _ j; simp
   | cons y ys ih =>
    intro hy j
    cases j with
    | zero => simp
    | succ j =>
     have hyl := hy y (by simp)
     rw [List.take_succ_cons, List.flatten_cons, ih (fun z hz => hy z (by simp [hz])), List.flatten_cons, Nat.succ_mul, Nat.add_comm, ← hyl, List.take_length_add_append, hyl]
  have hle : k * sz ≤ xs.length * sz := Nat.mul_le_mul_right _ hk
  have hcells : (cs.drop o).take ((xs.take k).length * sz) = (xs.take k).flatten := by
   rw [hlen, hfl xs (fun y hy => (h.each y hy).1), ← h5, List.take_take, Nat.min_eq_left hle]
  have fin : ∀ o' c', CapOK c' k sz → o' = o → Fz H sz (.sl (some (b, o')) k c') (xs.take k) := by
   rintro o' c' hc' rfl
   exact ⟨each, .inr ⟨b, o', c', cs, by rw [hlen], by rw [hlen]; exact hc', h3, by rw [hlen]; omega, hcells⟩⟩
  cases c with
  | ex m =>
   have hm : xs.length ≤ m := h2
   refine ⟨.sl (if m = 0 then some (b, o) else shift (some (b, o)) (0 * sz)) (k - 0) (.ex (m - 0)), ?_, ?_, ?_⟩
   ·simp only [aslice, Option.isNone_some, Option.isSome_none, Bool.and_false, Bool.false_eq_true, if_false, Option.bind_eq_bind, natOr, natOf_nat, Option.bind_some]
    rw [if_pos ⟨Nat.le_refl _, by omega, Nat.zero_le _⟩]
   ·by_cases hm0 : m = 0
    ·rw [if_pos hm0]; exact fin o _ (show k - 0 ≤ m - 0 by omega) rfl
    ·rw [if_neg hm0]; exact fin _ _ (show k - 0 ≤ m - 0 by omega) (by simp)
   ·split <;> rfl
  | op e kn =>
   have he : e = sz := h2
   subst he
   refine ⟨.sl (shift (some (b, o)) (0 * e)) (k - 0) (.op e (max xs.length kn - 0)), ?_, fin _ _ rfl (by simp), rfl⟩
   simp only [aslice, Option.isNone_some, Option.isNone_none, Option.isSome_none, Bool.and_false, Bool.false_eq_true, if_false, Option.bind_eq_bind, natOr, natOf_nat, Option.bind_some, if_true]
   rw [if_pos ⟨Nat.le_trans hk (Nat.le_max_left _ _), Nat.zero_le _, trivial⟩]
  | un =>
   refine ⟨.sl (shift (some (b, o)) (0 * sz)) (k - 0) .un, ?_, fin _ _ trivial (by simp), rfl⟩
   simp only [aslice, Option.isNone_some, Option.isNone_none, Option.isSome_none, Bool.and_false, Bool.false_eq_true, if_false, Option.bind_eq_bind, natOr, natOf_nat, Option.bind_some, if_true]
   rw [if_pos ⟨hk, Nat.zero_le _, trivial⟩]
def Full (v : AVal) : Prop := ∃ a n, v = .sl a n (.ex n)
theorem Fz.clip (h : Fz H sz v xs) : ∃ v', aslice sz v none (some (.int .i64 (xs.length : Nat))) (some (.int .i64 (xs.length : Nat))) = some v' ∧ Fz H sz v' xs ∧ Full v' ∧ slBlk v' = slBlk v := by
 rcases h.at' with ⟨rfl, rfl⟩ | ⟨b, o, c, cs, rfl, h2, h3, h4, h5⟩
 ·exact ⟨.sl none 0 (.ex 0), rfl, h, ⟨none, 0, rfl⟩, rfl⟩
 ·have fin : ∀ o', o' = o → Fz H sz (.sl (some (b, o')) xs.length (.ex xs.length)) xs := by
   rintro o' rfl
   exact ⟨h.each, .inr ⟨b, o', _, cs, rfl, Nat.le_refl _, h3, h4, h5⟩⟩
  have val : (aslice sz (.sl (some (b, o)) xs.length c) none (some (.int .i64 (xs.length : Nat))) (some (.int .i64 (xs.length : Nat)))) =
    some (.sl (if xs.length = 0 then some (b, o) else shift (some (b, o)) (0 * sz)) (xs.length - 0) (.ex (xs.length - 0))) := by
   simp only [aslice, Option.isNone_some, Option.isSome_some, Bool.and_true, Bool.false_and, Bool.false_eq_true, if_false, Option.bind_eq_bind, natOr, natOf_nat, Option.bind_some]
   cases c with
   | ex m => simp only [Option.bind_some]; rw [if_pos ⟨h2, Nat.le_refl _, Nat.zero_le _⟩]
   | op e k => simp only [Option.bind_some]; rw [if_pos ⟨Nat.le_refl _, Nat.le_refl _, Nat.zero_le _⟩]
   | un => simp only [Option.bind_some]; rw [if_pos ⟨Nat.le_refl _, Nat.le_refl _, Nat.zero_le _⟩]
  refine ⟨_, val, ?_, ⟨_, _, rfl⟩, ?_⟩
  ·by_cases h0 : xs.length = 0
   ·rw [if_pos h0]; exact fin o rfl
   ·rw [if_neg h0]; exact fin _ (by simp)
  ·split <;> rfl
theorem source_new (H : Heap) {sz n : Nat} {cs : List AVal} {c : Cap} (h : cs.length = n * sz) (hn : n ≠ 0) : source (H.push (.cells cs)) sz (.sl (some (H.next, 0)) n c) = some (n, cs) := by
 simp only [source, hn, if_false, cells_push_new, Ahs.cut, Nat.zero_add, h, Nat.le_refl, if_true, List.drop_zero, Option.map_some]
 rw [List.take_of_length_le (by omega)]
theorem Fz.append {lim : Nat} (h : Fz H sz v xs) (hfull : Full v) {x : AVal} {ys : List (List AVal)} {bytes : Nat} {zero : List AVal} (hz : zero.length = sz) (hs : 0 < sz) (hsrc : source H sz x = some (ys.length, ys.flatten))
  (hy : ∀ y ∈ ys, y.length = sz ∧ y.all (·.one) = true) (hne : ys ≠ []) (hr1 : (xs.length + ys.length) * bytes ≤ room) (hr2 : xs.length + ys.length ≤ room) :
  aappend lim H zero bytes false v x = some (.sl (some (H.next, 0)) (xs.length + ys.length) (.op sz 0), H.push (.cells (xs.flatten ++ ys.flatten))) ∧
   Fz (H.push (.cells (xs.flatten ++ ys.flatten))) sz (.sl (some (H.next, 0)) (xs.length + ys.length) (.op sz 0)) (xs ++ ys) := by
 subst hz
 have h0 : ys.length ≠ 0 := fun e => hne (List.length_eq_zero_iff.1 e)
 have hxl := flatten_len (fun y hy' => (h.each y hy').1)
 have hyl := flatten_len (fun y hy' => (hy y hy').1)
 constructor
 ·rw [aappend_eq hsrc (flatten_one fun y hy' => (hy y hy').2) (by omega)]
  obtain ⟨a, n, rfl⟩ := hfull
  rcases h.at' with ⟨e, rfl⟩ | ⟨b, o, c, cs, e, h2, h3, h4, h5⟩
  ·simp only [AVal.sl.injEq, Cap.ex.injEq] at e
   obtain ⟨rfl, rfl, _⟩ := e
   simp only [h0, if_false]
   rw [if_neg (by simp at hr1 hr2 ⊢; omega)]
   simp
  ·simp only [AVal.sl.injEq] at e
   obtain ⟨rfl, rfl, rfl⟩ := e
   simp only [h0, if_false]
   rw [if_neg (by omega), h3]
   simp only [Option.bind_eq_bind, Option.bind_some]
   rw [if_neg (by omega)]
   have hcut : cut cs o (xs.length * zero.length) = some xs.flatten := by
    unfold Ahs.cut
    rw [if_pos h4, h5]
   simp only [hcut, Option.bind_some, Nat.le_refl, flatten_one fun y hy' => (h.each y hy').2, and_self, if_true]
 ·refine ⟨fun y hy' => ?_, .inr ⟨H.next, 0, .op zero.length 0, _, by rw [List.length_append], rfl, cells_push_new H _, ?_, ?_⟩⟩
  ·rcases List.mem_append.1 hy' with g | g
   ·exact h.each y g
   ·exact hy y g
  ·rw [List.length_append, List.length_append, hxl, hyl, Nat.add_mul]; omega
  ·rw [List.drop_zero, List.flatten_append, List.take_of_length_le (by rw [List.length_append, List.length_append, hxl, hyl, Nat.add_mul]; omega)]
end
end Go.Ahs
