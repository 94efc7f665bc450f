/- Equations for going through printed formulas; heaps that keep what they hold; slices. -/
import Derived.Test.YtnlimogbokkfpaaGreatChsW1
set_option linter.unusedSimpArgs false
set_option linter.unusedVariables false
namespace Go.Ahs
theorem cond_t {A B : Prop} (h : A) : (true = true → A) ∧ (true = false → B) := ⟨fun _ => h, fun e => by simp at e⟩
theorem cond_f {A B : Prop} (h : B) : (false = true → A) ∧ (false = false → B) := ⟨fun e => by simp at e, fun _ => h⟩
theorem cond_d {p : Prop} [Decidable p] {A B : Prop} (h1 : p → A) (h2 : ¬ p → B) : (decide p = true → A) ∧ (decide p = false → B) :=
 ⟨fun e => h1 (of_decide_eq_true e), fun e => h2 (of_decide_eq_false e)⟩
theorem cond_b {b : Bool} {A B : Prop} (h1 : b = true → A) (h2 : b = false → B) : (b = true → A) ∧ (b = false → B) := ⟨h1, h2⟩
theorem bindP_of {α : Type} {o : Option α} {k : α → Prop} {Φ : α → Prop} (h : ∃ a, o = some a ∧ Φ a) (hk : ∀ a, Φ a → k a) : bindP o k := by
 obtain ⟨a, h1, h2⟩ := h; exact ⟨a, h1, hk a h2⟩
theorem bind2_of {o : Option (AVal × Heap)} {k : AVal → Heap → Prop} {Φ : AVal → Heap → Prop} (h : ∃ v H, o = some (v, H) ∧ Φ v H) (hk : ∀ v H, Φ v H → k v H) : bind2 o k := by
 obtain ⟨v, H, h1, h2⟩ := h; exact ⟨v, H, h1, hk v H h2⟩
theorem gd_tt (o : Option AVal) : gd (some (.bool true, true)) o = o := rfl
theorem gd_tf (o : Option AVal) : gd (some (.bool true, false)) o = some und := rfl
theorem gd_ft (o : Option AVal) : gd (some (.bool false, true)) o = some und := rfl
theorem gd_ff (o : Option AVal) : gd (some (.bool false, false)) o = o := rfl
theorem gd2_tt (H : Heap) (o : Option (AVal × Heap)) : gd2 (some (.bool true, true)) H o = o := rfl
theorem gd2_tf (H : Heap) (o : Option (AVal × Heap)) : gd2 (some (.bool true, false)) H o = some (und, H) := rfl
theorem gd2_ft (H : Heap) (o : Option (AVal × Heap)) : gd2 (some (.bool false, true)) H o = some (und, H) := rfl
theorem gd2_ff (H : Heap) (o : Option (AVal × Heap)) : gd2 (some (.bool false, false)) H o = o := rfl
theorem gd_und (w : Bool) (o : Option AVal) : gd (some (und, w)) o = some und := rfl
theorem gd2_und (w : Bool) (H : Heap) (o : Option (AVal × Heap)) : gd2 (some (und, w)) H o = some (und, H) := rfl
theorem pickO_t (a b : AVal) : pickO (.bool true) a b = some a := rfl
theorem pickO_f (a b : AVal) : pickO (.bool false) a b = some b := rfl
theorem boolOf_b (b : Bool) : boolOf (.bool b) = some b := rfl
theorem nilO_some (a : Nat × Nat) : nilO (.ptr (some a)) = some (.ptr (some a)) := rfl
theorem faddrO_some (off b o : Nat) : faddrO off (.ptr (some (b, o))) = some (.ptr (some (b, o + off))) := rfl
theorem extO_tup (i : Nat) (vs : List AVal) : extO i (.tup vs) = vs[i]? := rfl
theorem convO_int (k k' : IntKind) (n : Int) : convO k (.int k' n) = some (.int k (k.wrap n)) := rfl
theorem alen_sl (a : Option (Nat × Nat)) (n : Nat) (c : Cap) : alen false (.sl a n c) = some (.int .i64 n) := rfl
theorem cast0 : ((0 : Nat) : Int) = 0 := rfl
theorem ne00 : ((0 : Int) != 0) = false := rfl
theorem agg_cells (cs : List AVal) : (AVal.agg cs).cells = cs := rfl
theorem alen_str (s : List UInt8) : alen true (.str s) = some (.int .i64 s.length) := rfl
theorem fieldO_none (off : Nat) (cs : List AVal) : fieldO off none (.agg cs) = cs[off]? := rfl
theorem aun_not (b : Bool) : aun .not (.bool b) = some (.bool !b) := un_not b
theorem eqvO_cells (neg : Bool) (ls : List Leaf) (xs ys : List AVal) : eqvO neg (.cells ls) (.agg xs) (.agg ys) = (cellsEq ls xs ys).map fun b => .bool (if neg then !b else b) := rfl
theorem eqvO_ptrN (neg : Bool) : eqvO neg .ptr (.ptr none) (.ptr none) = some (.bool (if neg then !true else true)) := rfl
theorem eqvO_ptrS (neg : Bool) (a : Nat × Nat) : eqvO neg .ptr (.ptr (some a)) (.ptr none) = some (.bool (if neg then !false else false)) := rfl
theorem eqvO_bool (neg : Bool) (a b : Bool) : eqvO neg .bool (.bool a) (.bool b) = some (.bool (if neg then !(a == b) else (a == b))) := rfl
theorem opt_map_some {α β : Type} (f : α → β) (a : α) : Option.map f (some a) = some (f a) := rfl
theorem store_map (H : Heap) : (some H).map (fun H => (und, H)) = some (und, H) := rfl
theorem if_neg_f (b : Bool) : (if false = true then !b else b) = b := rfl
theorem if_neg_t (b : Bool) : (if true = true then !b else b) = !b := rfl
theorem get0 {α : Type} (a : α) (l : List α) : (a :: l)[0]? = some a := rfl
theorem getS {α : Type} (a : α) (l : List α) (n : Nat) : (a :: l)[n + 1]? = l[n]? := rfl
theorem abin_eqS (a b : List UInt8) : abin .eql (.str a) (.str b) = some (.bool (a == b)) := rfl
theorem abin_neS (a b : List UInt8) : abin .neq (.str a) (.str b) = some (.bool !(a == b)) := rfl
theorem run_eqn {o : Option (AVal × Heap)} {v0 : AVal} {H0 : Heap} (h : ∃ v H, o = some (v, H) ∧ v = v0 ∧ H = H0) : o = some (v0, H0) := by
 obtain ⟨v, H, h1, rfl, rfl⟩ := h; exact h1
theorem Heap.cells_lt {H : Heap} {b : Nat} {cs : List AVal} (h : H.cells b = some cs) : b < H.next := Heap.get_lt (Heap.cells_eq.1 h)
theorem aload_one {H : Heap} {b : Nat} {cs : List AVal} (h : H.cells b = some cs) (o : Nat) : aload H none (.ptr (some (b, o))) = cs[o]? := by
 simp only [aload, h]
theorem aload_agg {H : Heap} {b : Nat} {cs : List AVal} (h : H.cells b = some cs) (n o : Nat) : aload H (some n) (.ptr (some (b, o))) = (cut cs o n).map .agg := by
 simp only [aload, h]
theorem cells_push_new (H : Heap) (cs : List AVal) : (H.push (.cells cs)).cells H.next = some cs := Heap.cells_eq.2 (Heap.get_push_new H _)
theorem cells_push_old {H : Heap} {x : Blk} {b : Nat} {cs : List AVal} (h : H.cells b = some cs) : (H.push x).cells b = some cs := by
 have := Heap.cells_lt h
 exact Heap.cells_eq.2 (by rw [Heap.get_push_old _ _ _ (by omega)]; exact Heap.cells_eq.1 h)
theorem cells_set_same {H : Heap} {b : Nat} {cs : List AVal} (h : b < H.next) : (H.set b (.cells cs)).cells b = some cs := Heap.cells_eq.2 (Heap.get_set_same _ _ _ h)
theorem cells_set_other {H : Heap} {b c : Nat} {x : Blk} {cs : List AVal} (h : H.cells c = some cs) (hne : c ≠ b) : (H.set b x).cells c = some cs :=
 Heap.cells_eq.2 (by rw [Heap.get_set_other _ _ _ _ hne]; exact Heap.cells_eq.1 h)
theorem astore_at {lim : Nat} {H : Heap} {b : Nat} {cs : List AVal} (h : H.cells b = some cs) (hl : lim ≤ b) {n o : Nat} {x : AVal} (hn : x.cells.length = n) (ho : o + n ≤ cs.length) (h1 : x.cells.all (·.one) = true) :
  astore lim H n (.ptr (some (b, o))) x = some (H.set b (.cells (put cs o x.cells))) := by
 simp only [astore, h]
 rw [if_pos ⟨hl, hn, ho, h1⟩]
theorem Tr.set_set (x y : Blk) : ∀ (f : Nat) (t : Tr) (n : Nat), Tr.set y f (Tr.set x f t n) n = Tr.set y f t n
 | 0, _, _ => rfl
 | f + 1, t, n => by
  by_cases h0 : n = 0
  ·subst h0; simp only [Tr.set, if_true, Tr.left, Tr.right]
  ·by_cases h1 : n % 2 = 1
   ·simp only [Tr.set, h0, h1, if_true, if_false, Tr.left, Tr.right, Tr.val, Tr.set_set x y f]
   ·simp only [Tr.set, h0, h1, if_false, Tr.left, Tr.right, Tr.val, Tr.set_set x y f]
theorem set_push (H : Heap) (x y : Blk) : (H.push x).set H.next y = H.push y := by
 simp only [Heap.push, Heap.set, Tr.set_set]
theorem put_all {cs xs : List AVal} (h : xs.length = cs.length) : put cs 0 xs = xs := by
 unfold put
 rw [List.take_zero, List.nil_append, List.drop_eq_nil_of_le (by omega), List.append_nil]
theorem astore_new {lim : Nat} {H : Heap} {cs : List AVal} (hl : lim ≤ H.next) {n : Nat} {x : AVal} (hn : x.cells.length = n) (ho : cs.length = n) (h1 : x.cells.all (·.one) = true) :
  astore lim (H.push (.cells cs)) n (.ptr (some (H.next, 0))) x = some (H.push (.cells x.cells)) := by
 rw [astore_at (cells_push_new H cs) hl hn (by omega) h1, put_all (by omega), set_push]
theorem astore_new1 {lim : Nat} {H : Heap} {cs : List AVal} (hl : lim ≤ H.next) {o : Nat} {x : AVal} (hn : x.cells = [x]) (ho : o < cs.length) (h1 : x.one = true) :
  astore lim (H.push (.cells cs)) 1 (.ptr (some (H.next, o))) x = some (H.push (.cells (cs.set o x))) := by
 have hp : put cs o [x] = cs.set o x := by
  unfold put
  rw [List.set_eq_take_append_cons_drop, if_pos ho]
  simp
 rw [astore_at (cells_push_new H cs) hl (by rw [hn]; rfl) (by omega) (by rw [hn]; simp [h1]), hn, hp, set_push]
theorem aload_new1 (H : Heap) (cs : List AVal) (o : Nat) : aload (H.push (.cells cs)) none (.ptr (some (H.next, o))) = cs[o]? := aload_one (cells_push_new H cs) o
theorem aload_newA (H : Heap) {cs : List AVal} {n : Nat} (hn : cs.length = n) : aload (H.push (.cells cs)) (some n) (.ptr (some (H.next, 0))) = some (.agg cs) := by
 rw [aload_agg (cells_push_new H cs)]
 simp only [Ahs.cut, Nat.zero_add, hn, Nat.le_refl, if_true, List.drop_zero, Option.map_some]
 rw [List.take_of_length_le (by omega)]
structure Keeps2 (H H' : Heap) : Prop where
 next : H.next ≤ H'.next
 get : ∀ b, b < H.next → H'.get b = H.get b
theorem Keeps2.refl (H : Heap) : Keeps2 H H := ⟨Nat.le_refl _, fun _ _ => rfl⟩
theorem Keeps2.trans {H H1 H2 : Heap} (h : Keeps2 H H1) (h' : Keeps2 H1 H2) : Keeps2 H H2 :=
 ⟨Nat.le_trans h.next h'.next, fun b hb => (h'.get b (by have := h.next; omega)).trans (h.get b hb)⟩
theorem Keeps2.push (H : Heap) (x : Blk) : Keeps2 H (H.push x) := ⟨by rw [Heap.next_push]; omega, fun b hb => Heap.get_push_old _ _ _ (by omega)⟩
theorem Keeps2.setNew {H H1 : Heap} (h : Keeps2 H H1) {b : Nat} (hb : H.next ≤ b) (x : Blk) : Keeps2 H (H1.set b x) :=
 ⟨h.next, fun c hc => by rw [Heap.get_set_other _ _ _ _ (by omega)]; exact h.get c hc⟩
theorem Keeps2.cells {H H' : Heap} (h : Keeps2 H H') {b : Nat} {cs : List AVal} (hc : H.cells b = some cs) : H'.cells b = some cs :=
 Heap.cells_eq.2 (by rw [h.get b (Heap.cells_lt hc)]; exact Heap.cells_eq.1 hc)
def CapOK (c : Cap) (n sz : Nat) : Prop :=
 match c with
 | .ex k => n ≤ k
 | .op e _ => e = sz
 | .un => True
structure Sl (H : Heap) (sz : Nat) (v : AVal) (xs : List (List AVal)) : Prop where
 at' : (∃ a c, v = .sl a 0 c ∧ CapOK c 0 sz ∧ xs = []) ∨ ∃ b o c cs, v = .sl (some (b, o)) xs.length c ∧ CapOK c xs.length sz ∧ H.cells b = some cs ∧ o + xs.length * sz ≤ cs.length ∧ (cs.drop o).take (xs.length * sz) = xs.flatten
 each : ∀ x ∈ xs, x.length = sz
def slot (v : AVal) (k : Nat) : AVal :=
 match v with
 | .sl (some (b, o)) _ _ => .ptr (some (b, o + k))
 | _ => .ptr none
theorem Sl.zero (H : Heap) (sz : Nat) (a : Option (Nat × Nat)) (c : Cap) (hc : CapOK c 0 sz) : Sl H sz (.sl a 0 c) [] := ⟨.inl ⟨a, c, rfl, hc, rfl⟩, fun _ h => by simp at h⟩
theorem Sl.nil (H : Heap) (sz : Nat) : Sl H sz (.sl none 0 (.ex 0)) [] := Sl.zero H sz _ _ (Nat.le_refl 0)
theorem Sl.keep {H H' : Heap} (hk : Keeps2 H H') {sz : Nat} {v : AVal} {xs : List (List AVal)} (h : Sl H sz v xs) : Sl H' sz v xs := by
 refine ⟨?_, h.each⟩
 rcases h.at' with h1 | ⟨b, o, c, cs, h1, hc, h2, h3, h4⟩
 ·exact .inl h1
 ·exact .inr ⟨b, o, c, cs, h1, hc, hk.cells h2, h3, h4⟩
theorem Sl.len {H : Heap} {sz : Nat} {v : AVal} {xs : List (List AVal)} (h : Sl H sz v xs) : alen false v = some (.int .i64 (xs.length : Nat)) := by
 rcases h.at' with ⟨_, _, rfl, _, rfl⟩ | ⟨b, o, c, cs, rfl, _, _⟩ <;> rfl
theorem natOf_nat (k : IntKind) (i : Nat) : natOf (.int k (i : Int)) = some i := by
 show (if (0 : Int) ≤ (i : Int) then some (i : Int).toNat else none) = some i
 rw [if_pos (by omega), Int.toNat_natCast]
theorem Sl.addr {H : Heap} {sz : Nat} {v : AVal} {xs : List (List AVal)} (h : Sl H sz v xs) {k : IntKind} {i : Nat} (hi : i < xs.length) : aindexAddr none sz v (.int k (i : Int)) = some (slot v (i * sz)) := by
 rcases h.at' with ⟨_, _, rfl, _, rfl⟩ | ⟨b, o, c, cs, rfl, _, _⟩
 ·simp at hi
 ·simp only [aindexAddr, natOf_nat, hi, if_true, slot]
theorem faddr_slot {H : Heap} {sz : Nat} {v : AVal} {xs : List (List AVal)} (h : Sl H sz v xs) (hn : 0 < xs.length) (k off : Nat) : faddrO off (slot v k) = some (slot v (k + off)) := by
 rcases h.at' with ⟨_, _, rfl, _, rfl⟩ | ⟨b, o, c, cs, rfl, _, _⟩
 ·simp at hn
 ·simp only [slot, faddrO_some, Nat.add_assoc]
theorem flatten_at {sz : Nat} : ∀ {xs : List (List AVal)}, (∀ x ∈ xs, x.length = sz) → ∀ (i : Nat) (x : List AVal), xs[i]? = some x → (xs.flatten.drop (i * sz)).take sz = x
 | [], _, i, x, h => by simp at h
 | y :: ys, he, 0, x, h => by
  simp at h; subst h
  have := he y (by simp)
  simp [← this]
 | y :: ys, he, i + 1, x, h => by
  simp at h
  have hy := he y (by simp)
  have ih := flatten_at (fun x hx => he x (by simp [hx])) i x h
  rw [List.flatten_cons, Nat.succ_mul, Nat.add_comm, ← hy, ← List.drop_drop, List.drop_left, hy]
  exact ih
theorem flatten_len {sz : Nat} : ∀ {xs : List (List AVal)}, (∀ x ∈ xs, x.length = sz) → xs.flatten.length = xs.length * sz
 | [], _ => by simp
 | y :: ys, he => by
  rw [List.flatten_cons, List.length_append, flatten_len (fun x hx => he x (by simp [hx])), he y (by simp), List.length_cons, Nat.succ_mul]
  omega
theorem Sl.cut {H : Heap} {sz : Nat} {v : AVal} {xs : List (List AVal)} (h : Sl H sz v xs) {i : Nat} {x : List AVal} (hx : xs[i]? = some x) :
  ∃ b o cs, slot v (i * sz) = .ptr (some (b, o)) ∧ (∀ k, slot v (i * sz + k) = .ptr (some (b, o + k))) ∧ H.cells b = some cs ∧ o + sz ≤ cs.length ∧ (cs.drop o).take sz = x := by
 have hi : i < xs.length := by
  rcases Nat.lt_or_ge i xs.length with h | h
  ·exact h
  ·rw [List.getElem?_eq_none h] at hx; simp at hx
 rcases h.at' with ⟨_, _, rfl, _, rfl⟩ | ⟨b, o, c, cs, rfl, _, h2, h3, h4⟩
 ·simp at hi
 ·have hle : (i + 1) * sz ≤ xs.length * sz := Nat.mul_le_mul_right _ hi
  rw [Nat.succ_mul] at hle
  refine ⟨b, o + i * sz, cs, rfl, fun k => by simp only [slot, Nat.add_assoc], h2, by omega, ?_⟩
  rw [← flatten_at h.each i x hx, ← h4, List.drop_take, List.take_take, List.drop_drop, Nat.min_eq_left (by omega)]
theorem Sl.load {H : Heap} {sz : Nat} {v : AVal} {xs : List (List AVal)} (h : Sl H sz v xs) {i : Nat} {x : List AVal} (hx : xs[i]? = some x) : aload H (some sz) (slot v (i * sz)) = some (.agg x) := by
 obtain ⟨b, o, cs, h1, _, h2, h3, h4⟩ := h.cut hx
 rw [h1, aload_agg h2]
 simp only [Ahs.cut, h3, if_true, h4, Option.map_some]
theorem Sl.loadf {H : Heap} {sz : Nat} {v : AVal} {xs : List (List AVal)} (h : Sl H sz v xs) {i : Nat} {x : List AVal} (hx : xs[i]? = some x) {f : Nat} (hf : f < sz) : aload H none (slot v (i * sz + f)) = x[f]? := by
 obtain ⟨b, o, cs, _, h1, h2, h3, h4⟩ := h.cut hx
 rw [h1, aload_one h2, ← h4, List.getElem?_take, if_pos hf, List.getElem?_drop]
theorem Sl.load1 {H : Heap} {v : AVal} {xs : List (List AVal)} (h : Sl H 1 v xs) {i : Nat} {x : AVal} (hx : xs[i]? = some [x]) : aload H none (slot v (i * 1)) = some x := by
 have := h.loadf hx (f := 0) (by omega)
 simpa using this
theorem walkR : (type_of% @abin_add) ∧ (type_of% @abin_sub) ∧ (type_of% @abin_mul) ∧ (type_of% @abin_eql) ∧ (type_of% @abin_neq) ∧ (type_of% @abin_lss) ∧ (type_of% @abin_leq) ∧ (type_of% @abin_gtr) ∧ (type_of% @abin_geq) ∧ (type_of% @abin_eqS) ∧ (type_of% @abin_neS) ∧ (type_of% @gd_tt) ∧ (type_of% @gd_tf) ∧ (type_of% @gd_ft) ∧ (type_of% @gd_ff) ∧ (type_of% @gd2_tt) ∧ (type_of% @gd2_tf) ∧ (type_of% @gd2_ft) ∧ (type_of% @gd2_ff) ∧ (type_of% @gd_und) ∧ (type_of% @gd2_und) ∧ (type_of% @pickO_t) ∧ (type_of% @pickO_f) ∧ (type_of% @boolOf_b) ∧ (type_of% @nilO_some) ∧ (type_of% @faddrO_some) ∧ (type_of% @extO_tup) ∧ (type_of% @convO_int) ∧ (type_of% @cast0) ∧ (type_of% @alen_sl) ∧ (type_of% @alen_str) ∧ (type_of% @agg_cells) ∧ (type_of% @ne00) ∧ (type_of% @fieldO_none) ∧ (type_of% @aun_not) ∧ (type_of% @eqvO_cells) ∧ (type_of% @eqvO_ptrN) ∧ (type_of% @eqvO_ptrS) ∧ (type_of% @eqvO_bool) ∧ (type_of% @opt_map_some) ∧ (type_of% @if_neg_f) ∧ (type_of% @if_neg_t) := ⟨@abin_add, @abin_sub, @abin_mul, @abin_eql, @abin_neq, @abin_lss, @abin_leq, @abin_gtr, @abin_geq, @abin_eqS, @abin_neS, @gd_tt, @gd_tf, @gd_ft, @gd_ff, @gd2_tt, @gd2_tf, @gd2_ft, @gd2_ff, @gd_und, @gd2_und, @pickO_t, @pickO_f, @boolOf_b, @nilO_some, @faddrO_some, @extO_tup, @convO_int, @cast0, @alen_sl, @alen_str, @agg_cells, @ne00, @fieldO_none, @aun_not, @eqvO_cells, @eqvO_ptrN, @eqvO_ptrS, @eqvO_bool, @opt_map_some, @if_neg_f, @if_neg_t⟩
end Go.Ahs
