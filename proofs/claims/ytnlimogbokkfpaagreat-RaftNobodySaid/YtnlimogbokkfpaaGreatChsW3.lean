/- Slices that are owned, grown and cut; what an operation leaves as it was. -/
import Derived.Test.YtnlimogbokkfpaaGreatChsW2
set_option linter.unusedSimpArgs false
set_option linter.unusedVariables false
namespace Go.Ahs
theorem max_nat (k : IntKind) (a b : Nat) : aminmax true [.int k (a : Int), .int k (b : Int)] = some (.int k ((max a b : Nat) : Int)) := by
 simp only [aminmax, mmFold, if_true]
 congr 2
 split <;> omega
theorem min_nat (k : IntKind) (a b : Nat) : aminmax false [.int k (a : Int), .int k (b : Int)] = some (.int k ((min a b : Nat) : Int)) := by
 simp only [aminmax, mmFold, if_true, Bool.false_eq_true, if_false]
 congr 2
 split <;> omega
theorem put_one {cs : List AVal} {o : Nat} (ho : o < cs.length) (x : AVal) : put cs o [x] = cs.set o x := by
 unfold put
 rw [List.set_eq_take_append_cons_drop, if_pos ho]
 simp
theorem astore_cell {lim : Nat} {H : Heap} {b : Nat} {cs cs' : List AVal} (h : H.cells b = some cs) (hl : lim ≤ b) {o : Nat} {x : AVal} (hx : x.cells = [x]) (h1 : x.one = true) (ho : o < cs.length) (hcs : cs.set o x = cs') :
  astore lim H 1 (.ptr (some (b, o))) x = some (H.set b (.cells cs')) := by
 rw [astore_at h hl (n := 1) (o := o) (x := x) (by rw [hx]; rfl) (by omega) (by rw [hx]; simp [h1]), hx, put_one ho, hcs]
theorem astore_whole {lim : Nat} {H : Heap} {b : Nat} {cs xs : List AVal} (h : H.cells b = some cs) (hl : lim ≤ b) {n : Nat} (h1 : xs.all (·.one) = true) (ho : xs.length = n) (hcs : cs.length = n) :
  astore lim H n (.ptr (some (b, 0))) (.agg xs) = some (H.set b (.cells xs)) := by
 have e : (AVal.agg xs).cells = xs := rfl
 rw [astore_at h hl (n := n) (o := 0) (x := .agg xs) (by rw [e, ho]) (by omega) (by rw [e, h1]), e, put_all (by omega)]
structure Fram (S : Nat → Prop) (H H' : Heap) : Prop where
 next : H.next ≤ H'.next
 get : ∀ c, c < H.next → ¬ S c → H'.get c = H.get c
theorem Fram.of {S : Nat → Prop} {H H' : Heap} (h : Keeps2 H H') : Fram S H H' := ⟨h.next, fun c hc _ => h.get c hc⟩
theorem Fram.trans {S S' : Nat → Prop} {H H1 H2 : Heap} (h : Fram S H H1) (h' : Fram S' H1 H2) (hs : ∀ c, c < H.next → S' c → S c) : Fram S H H2 :=
 ⟨Nat.le_trans h.next h'.next, fun c hc hn => (h'.get c (by have := h.next; omega) (fun hc' => hn (hs c hc hc'))).trans (h.get c hc hn)⟩
theorem Fram.weaken {S S' : Nat → Prop} {H H' : Heap} (h : Fram S H H') (hs : ∀ c, c < H.next → S c → S' c) : Fram S' H H' := ⟨h.next, fun c hc hn => h.get c hc (fun h' => hn (hs c hc h'))⟩
theorem Fram.keeps {S : Nat → Prop} {H0 H H' : Heap} (h : Keeps2 H0 H) (h' : Fram S H H') (hs : ∀ c, c < H0.next → ¬ S c) : Keeps2 H0 H' :=
 ⟨Nat.le_trans h.next h'.next, fun c hc => (h'.get c (by have := h.next; omega) (hs c hc)).trans (h.get c hc)⟩
theorem Fram.cells {S : Nat → Prop} {H H' : Heap} (h : Fram S H H') {b : Nat} {cs : List AVal} (hc : H.cells b = some cs) (hn : ¬ S b) : H'.cells b = some cs :=
 Heap.cells_eq.2 (by rw [h.get b (Heap.cells_lt hc) hn]; exact Heap.cells_eq.1 hc)
theorem Fram.refl (S : Nat → Prop) (H : Heap) : Fram S H H := ⟨Nat.le_refl _, fun _ _ _ => rfl⟩
theorem Fram.set {S : Nat → Prop} {H : Heap} {b : Nat} {x : Blk} (hb : S b) : Fram S H (H.set b x) :=
 ⟨Nat.le_refl _, fun c hc hn => Heap.get_set_other _ _ _ _ (fun e => hn (e ▸ hb))⟩
theorem Fram.set' {S : Nat → Prop} {H H1 : Heap} {b : Nat} {x : Blk} (h : Fram S H H1) (hb : S b ∨ H.next ≤ b) : Fram S H (H1.set b x) :=
 ⟨h.next, fun c hc hn => by
  rw [Heap.get_set_other _ _ _ _ (fun e => by
   subst e
   rcases hb with hb | hb
   ·exact hn hb
   ·omega)]
  exact h.get c hc hn⟩
theorem Fram.push' {S : Nat → Prop} {H H1 : Heap} {x : Blk} (h : Fram S H H1) : Fram S H (H1.push x) :=
 ⟨by rw [Heap.next_push]; have := h.next; omega, fun c hc hn => by rw [Heap.get_push_old _ _ _ (by have := h.next; omega)]; exact h.get c hc hn⟩
theorem Fram.keeps' {S : Nat → Prop} {H H1 H2 : Heap} (h : Fram S H H1) (h' : Keeps2 H1 H2) : Fram S H H2 := h.trans (.of (S := fun _ => False) h') (fun _ _ e => e.elim)
def slBlk : AVal → Option Nat
 | .sl (some (b, _)) _ _ => some b
 | _ => none
theorem Sl.frame {S : Nat → Prop} {H H' : Heap} (hf : Fram S H H') {sz : Nat} {v : AVal} {xs : List (List AVal)} (h : Sl H sz v xs) (hn : ∀ b, slBlk v = some b → ¬ S b) : Sl H' sz v xs := by
 refine ⟨?_, h.each⟩
 rcases h.at' with h1 | ⟨b, o, c, cs, rfl, hc, h2, h3, h4⟩
 ·exact .inl h1
 ·exact .inr ⟨b, o, c, cs, rfl, hc, hf.cells h2 (hn b rfl), h3, h4⟩
theorem Sl.source {H : Heap} {sz : Nat} {v : AVal} {xs : List (List AVal)} (h : Sl H sz v xs) : source H sz v = some (xs.length, xs.flatten) := by
 rcases h.at' with ⟨a, c, rfl, _, rfl⟩ | ⟨b, o, c, cs, rfl, _, h2, h3, h4⟩
 ·cases a with
  | none => rfl
  | some p => obtain ⟨b, o⟩ := p; rfl
 ·simp only [Ahs.source]
  by_cases h0 : xs.length = 0
  ·have : xs = [] := List.length_eq_zero_iff.1 h0
   subst this; rfl
  ·rw [if_neg h0, h2]
   simp only [Ahs.cut, h3, if_true, h4, Option.map_some]
theorem capOK_mono {c : Cap} {n m sz : Nat} (h : CapOK c n sz) (hm : m ≤ n) : CapOK c m sz := by
 cases c with
 | ex k => exact Nat.le_trans hm h
 | op e => exact h
 | un => trivial
theorem Sl.slice {H : Heap} {sz : Nat} {v : AVal} {xs : List (List AVal)} (h : Sl H sz v xs) {lo hi : Option AVal} {l k : Nat} (hl : natOr 0 lo = some l) (hk : natOr xs.length hi = some k) (h1 : l ≤ k) (h2 : k ≤ xs.length) :
  ∃ v', aslice sz v lo hi none = some v' ∧ Sl H sz v' ((xs.drop l).take (k - l)) ∧ (∀ b, slBlk v' = some b → slBlk v = some b) := by
 have each : ∀ x ∈ (xs.drop l).take (k - l), x.length = sz := fun x hx => h.each x (List.mem_of_mem_drop (List.mem_of_mem_take hx))
 have hlen : ((xs.drop l).take (k - l)).length = k - l := by simp; omega
 rcases h.at' with ⟨a, c, rfl, hc, rfl⟩ | ⟨b, o, c, cs, rfl, hc, h3, h4, h5⟩
 ·have hk0 : k = 0 := by simpa using h2
  subst hk0
  have hl0 : l = 0 := by omega
  subst hl0
  cases c with
  | ex m =>
   refine ⟨.sl (if m = 0 then a else shift a (0 * sz)) (0 - 0) (.ex (m - 0)), ?_, ?_, ?_⟩
   ·simp only [aslice, Option.isNone_none, Option.isSome_none, Bool.and_false, Bool.false_eq_true, if_false, Option.bind_eq_bind]
    rw [show natOr 0 hi = some 0 from hk, show natOr 0 lo = some 0 from hl]
    simp [natOr]
   ·simpa using Sl.zero H sz _ (.ex (m - 0)) (Nat.zero_le _)
   ·intro b hb
    cases a with
    | none => simp [shift, slBlk] at hb
    | some p =>
     obtain ⟨b', o⟩ := p
     simp only [slBlk]
     by_cases hm : m = 0
     ·simp [hm, slBlk] at hb; exact congrArg some hb
     ·simp [hm, shift, slBlk] at hb; exact congrArg some hb
  | op e kn =>
   have he : e = sz := hc
   subst he
   refine ⟨.sl (shift a (0 * e)) (0 - 0) (.op e (max 0 kn - 0)), ?_, ?_, ?_⟩
   ·simp only [aslice, Option.isNone_none, Option.isSome_none, Bool.and_false, Bool.false_eq_true, if_false, Option.bind_eq_bind]
    rw [show natOr 0 hi = some 0 from hk, show natOr 0 lo = some 0 from hl]
    simp
   ·simpa using Sl.zero H e _ (.op e _) rfl
   ·intro b hb
    cases a with
    | none => simp [shift, slBlk] at hb
    | some p =>
     obtain ⟨b', o⟩ := p
     simp [shift, slBlk] at hb ⊢; exact hb
  | un =>
   refine ⟨.sl (shift a (0 * sz)) (0 - 0) .un, ?_, ?_, ?_⟩
   ·simp only [aslice, Option.isNone_none, Option.isSome_none, Bool.and_false, Bool.false_eq_true, if_false, Option.bind_eq_bind]
    rw [show natOr 0 hi = some 0 from hk, show natOr 0 lo = some 0 from hl]
    simp
   ·simpa using Sl.zero H sz _ .un trivial
   ·intro b hb
    cases a with
    | none => simp [shift, slBlk] at hb
    | some p =>
     obtain ⟨b', o⟩ := p
     simp [shift, slBlk] at hb ⊢; exact hb
 ·have hmul : l * sz + (k - l) * sz = k * sz := by rw [← Nat.add_mul]; congr 1; omega
  have hle : k * sz ≤ xs.length * sz := Nat.mul_le_mul_right _ h2
  have hflat : ((xs.drop l).take (k - l)).flatten = (xs.flatten.drop (l * sz)).take ((k - l) * sz) := by
   have e1 : ∀ (ys : List (List AVal)) (j : Nat), (∀ y ∈ ys, y.length = sz) → (ys.drop j).flatten = ys.flatten.drop (j * sz) := by
    intro ys
    induction ys with
    | nil => intro j _; simp
    | cons y ys ih =>
     intro j hy
     cases j with
     | zero => simp
     | succ j =>
      have hyl := hy y (by simp)
      rw [List.drop_succ_cons, ih j (fun z hz => hy z (by simp [hz])), List.flatten_cons, Nat.succ_mul, Nat.add_comm, ← hyl, ← List.drop_drop, List.drop_left, hyl]
   have e2 : ∀ (ys : List (List AVal)) (j : Nat), (∀ y ∈ ys, y.length = sz) → (ys.take j).flatten = ys.flatten.take (j * sz) := by
    intro ys
    induction ys with
    | nil => intro j _; simp
    | cons y ys ih =>
     intro j hy
     cases j with
     | zero => simp
     | succ j =>
      have hyl := hy y (by simp)
      rw [List.take_succ_cons, List.flatten_cons, ih j (fun z hz => hy z (by simp [hz])), List.flatten_cons, Nat.succ_mul, Nat.add_comm, ← hyl, List.take_length_add_append, hyl]
   rw [e2 _ _ (fun y hy => h.each y (List.mem_of_mem_drop hy)), e1 _ _ h.each]
  have hcells : (cs.drop (o + l * sz)).take ((k - l) * sz) = ((xs.drop l).take (k - l)).flatten := by
   rw [hflat, ← h5, List.drop_take, List.take_take, List.drop_drop, Nat.min_eq_left (by omega)]
  have fin : ∀ c', CapOK c' (k - l) sz → Sl H sz (.sl (some (b, o + l * sz)) (k - l) c') ((xs.drop l).take (k - l)) := by
   intro c' hc'
   refine ⟨.inr ⟨b, o + l * sz, c', cs, by rw [hlen], by rw [hlen]; exact hc', h3, by rw [hlen]; omega, by rw [hlen]; exact hcells⟩, each⟩
  cases c with
  | ex m =>
   have hm : xs.length ≤ m := hc
   have hval : aslice sz (.sl (some (b, o)) xs.length (.ex m)) lo hi none = some (.sl (if m = l then some (b, o) else shift (some (b, o)) (l * sz)) (k - l) (.ex (m - l))) := by
    simp only [aslice, Option.isNone_none, Option.isSome_none, Bool.and_false, Bool.false_eq_true, if_false, Option.bind_eq_bind]
    rw [hk, hl]
    simp only [Option.bind_some, natOr]
    rw [if_pos ⟨Nat.le_refl _, by omega, h1⟩]
   refine ⟨_, hval, ?_, ?_⟩
   ·by_cases hml : m = l
    ·have hkl : k = l := by omega
     subst hkl
     simp only [hml, if_true, Nat.sub_self, List.take_zero]
     exact Sl.zero H sz _ (.ex _) (Nat.zero_le _)
    ·rw [if_neg hml]
     exact fin (.ex (m - l)) (show k - l ≤ m - l by omega)
   ·intro b' hb
    by_cases hml : m = l
    ·rw [if_pos hml] at hb; exact hb
    ·rw [if_neg hml] at hb; exact hb
  | op e kn =>
   have he : e = sz := hc
   subst he
   have hval : aslice e (.sl (some (b, o)) xs.length (.op e kn)) lo hi none = some (.sl (shift (some (b, o)) (l * e)) (k - l) (.op e (max xs.length kn - l))) := by
    simp only [aslice, Option.isNone_none, Option.isSome_none, Bool.and_false, Bool.false_eq_true, if_false, Option.bind_eq_bind]
    rw [hk, hl]
    simp only [Option.bind_some, if_true]
    rw [if_pos ⟨Nat.le_trans h2 (Nat.le_max_left _ _), h1, trivial⟩]
   exact ⟨_, hval, fin (.op e _) rfl, fun b' hb => hb⟩
  | un =>
   have hval : aslice sz (.sl (some (b, o)) xs.length .un) lo hi none = some (.sl (shift (some (b, o)) (l * sz)) (k - l) .un) := by
    simp only [aslice, Option.isNone_none, Option.isSome_none, Bool.and_false, Bool.false_eq_true, if_false, Option.bind_eq_bind]
    rw [hk, hl]
    simp only [Option.bind_some, if_true]
    rw [if_pos ⟨h2, h1, trivial⟩]
   exact ⟨_, hval, fin .un trivial, fun b' hb => hb⟩
def Own (H : Heap) (sz : Nat) (v : AVal) (xs : List (List AVal)) (bv : Nat) : Prop :=
 (∀ x ∈ xs, x.length = sz ∧ x.all (·.one) = true) ∧
 ((v = .sl none 0 (.ex 0) ∧ xs = []) ∨ (∃ o cs, v = .sl (some (bv, o)) 0 (.ex 0) ∧ xs = [] ∧ H.cells bv = some cs ∧ o ≤ cs.length) ∨ (v = .sl (some (bv, 0)) xs.length (.op sz 0) ∧ H.cells bv = some xs.flatten))
theorem Own.sl {H : Heap} {sz : Nat} {v : AVal} {xs : List (List AVal)} {bv : Nat} (h : Own H sz v xs bv) : Sl H sz v xs := by
 obtain ⟨he, h⟩ := h
 rcases h with ⟨rfl, rfl⟩ | ⟨o, cs, rfl, rfl, _⟩ | ⟨rfl, hc⟩
 ·exact Sl.nil H sz
 ·exact Sl.zero H sz _ (.ex 0) (Nat.zero_le _)
 ·have hl := flatten_len (fun x hx => (he x hx).1)
  exact ⟨.inr ⟨bv, 0, .op sz 0, _, rfl, rfl, hc, by rw [hl]; omega, by rw [List.drop_zero, List.take_of_length_le (by omega)]⟩, fun x hx => (he x hx).1⟩
theorem Own.blk {H : Heap} {sz : Nat} {v : AVal} {xs : List (List AVal)} {bv : Nat} (h : Own H sz v xs bv) : ∀ b, slBlk v = some b → b = bv := by
 intro b hb
 rcases h.2 with ⟨rfl, rfl⟩ | ⟨o, cs, rfl, rfl, _⟩ | ⟨rfl, hc⟩ <;> simp [slBlk] at hb
 ·exact hb.symm
 ·exact hb.symm
theorem Own.frame {S : Nat → Prop} {H H' : Heap} {sz : Nat} {v : AVal} {xs : List (List AVal)} {bv : Nat} (h : Own H sz v xs bv) (hf : Fram S H H') (hn : ¬ S bv) : Own H' sz v xs bv := by
 refine ⟨h.1, ?_⟩
 rcases h.2 with h1 | ⟨o, cs, h1, h2, h3, h4⟩ | ⟨h1, h2⟩
 ·exact .inl h1
 ·exact .inr (.inl ⟨o, cs, h1, h2, hf.cells h3 hn, h4⟩)
 ·exact .inr (.inr ⟨h1, hf.cells h2 hn⟩)
theorem Own.one {H : Heap} {sz : Nat} {v : AVal} {xs : List (List AVal)} {bv : Nat} (h : Own H sz v xs bv) : v.one = true ∧ v.cells = [v] := by
 rcases h.2 with ⟨rfl, _⟩ | ⟨o, cs, rfl, _⟩ | ⟨rfl, _⟩ <;> exact ⟨rfl, rfl⟩
theorem Own.pick {H : Heap} {sz : Nat} {v : AVal} {xs : List (List AVal)} {bv : Nat} (h : Own H sz v xs bv) : ∃ b, Own H sz v xs b ∧ (b < H.next → slBlk v = some b) := by
 rcases h.2 with ⟨rfl, rfl⟩ | ⟨o, cs, rfl, rfl, h3, h4⟩ | ⟨rfl, h4⟩
 ·exact ⟨H.next, ⟨h.1, .inl ⟨rfl, rfl⟩⟩, fun hb => by omega⟩
 ·exact ⟨bv, h, fun _ => rfl⟩
 ·exact ⟨bv, h, fun _ => rfl⟩
theorem flatten_one {xs : List (List AVal)} (h : ∀ x ∈ xs, x.all (·.one) = true) : xs.flatten.all (·.one) = true := by
 induction xs with
 | nil => rfl
 | cons x xs ih => rw [List.flatten_cons, List.all_append, h x (by simp), ih (fun y hy => h y (by simp [hy]))]; rfl
theorem aappend_eq {lim : Nat} {H : Heap} {zero : List AVal} {bytes : Nat} {s x : AVal} {m : Nat} {new : List AVal} (hsrc : source H zero.length x = some (m, new)) (hnew : new.all (·.one) = true) (hz : zero.length ≠ 0) :
  aappend lim H zero bytes false s x = (match s with
   | .sl a n c =>
    if m = 0 then some (.sl a n c, H) else
    if (n + m) * bytes > room ∨ n + m > room then none else
    match a, c with
    | none, .ex _ => if n = 0 then some (.sl (some (H.next, 0)) m (.op zero.length 0), H.push (.cells new)) else none
    | some (b, o), .ex k => do
     let cs ← H.cells b
     if n + m ≤ k then
      if lim ≤ b ∧ o + (n + m) * zero.length ≤ cs.length then some (.sl a (n + m) c, H.set b (.cells (put cs (o + n * zero.length) new))) else none
     else do
      let old ← cut cs o (n * zero.length)
      if n ≤ k ∧ old.all (·.one) then some (.sl (some (H.next, 0)) (n + m) (.op zero.length 0), H.push (.cells (old ++ new))) else none
    | some (b, o), .op e _ => do
     let cs ← H.cells b
     if lim ≤ b ∧ e = zero.length then
      if o + (n + m) * zero.length ≤ cs.length then some (.sl a (n + m) c, H.set b (.cells (put cs (o + n * zero.length) new)))
      else if o + n * zero.length = cs.length ∧ cs.all (·.one) then some (.sl (some (H.next, 0)) (n + m) (.op zero.length 0), (H.set b .dead).push (.cells (cs.drop o ++ new)))
      else none
     else none
    | _, _ => none
   | _ => none) := by
 unfold aappend
 simp only [Bool.false_eq_true, if_false, hsrc, Option.bind_eq_bind, Option.bind_some, hnew, Bool.not_true, Bool.false_or, hz, decide_false]
 rfl
theorem own_append {lim : Nat} {H : Heap} {sz : Nat} {v x : AVal} {xs ys : List (List AVal)} {bv bytes : Nat} {zero : List AVal} (h : Own H sz v xs bv) (hz : zero.length = sz) (hs : 0 < sz)
  (hsrc : source H sz x = some (ys.length, ys.flatten)) (hy : ∀ y ∈ ys, y.length = sz ∧ y.all (·.one) = true) (hroom : (xs.length + ys.length) * bytes ≤ room) (hroom2 : xs.length + ys.length ≤ room) (hl : slBlk v = some bv → lim ≤ bv) :
  ∃ v' H' bv', aappend lim H zero bytes false v x = some (v', H') ∧ Own H' sz v' (xs ++ ys) bv' ∧ Fram (fun c => slBlk v = some c) H H' ∧ ((bv' = bv ∧ (ys = [] ∨ False)) ∨ H.next ≤ bv') ∧ (slBlk v' = some bv' → bv' < H'.next) := by
 subst hz
 have hyl := flatten_len (fun y hy' => (hy y hy').1)
 rw [aappend_eq hsrc (flatten_one fun y hy' => (hy y hy').2) (by omega)]
 have all2 : ∀ z ∈ xs ++ ys, z.length = zero.length ∧ z.all (·.one) = true := by
  intro z hz
  rcases List.mem_append.1 hz with hz | hz
  ·exact h.1 z hz
  ·exact hy z hz
 by_cases h0 : ys.length = 0
 ·have hnil : ys = [] := List.length_eq_zero_iff.1 h0
  subst hnil
  have hlt : slBlk v = some bv → bv < H.next := by
   intro hb
   rcases h.2 with ⟨rfl, rfl⟩ | ⟨o, cs, rfl, rfl, hc, _⟩ | ⟨rfl, hc⟩
   ·simp [slBlk] at hb
   ·exact Heap.cells_lt hc
   ·exact Heap.cells_lt hc
  refine ⟨v, H, bv, ?_, by simpa using h, .refl _ _, .inl ⟨rfl, .inl rfl⟩, hlt⟩
  rcases h.2 with ⟨rfl, rfl⟩ | ⟨o, cs, rfl, rfl, _⟩ | ⟨rfl, hc⟩ <;> simp
 ·rcases h.2 with ⟨rfl, rfl⟩ | ⟨o, cs, rfl, rfl, hc, ho⟩ | ⟨rfl, hc⟩
  ·simp only [List.length_nil, Nat.zero_add] at hroom hroom2
   refine ⟨.sl (some (H.next, 0)) ys.length (.op zero.length 0), H.push (.cells ys.flatten), H.next, ?_, ⟨all2, .inr (.inr ⟨rfl, cells_push_new H _⟩)⟩, .of (.push _ _), .inr (Nat.le_refl _), fun _ => by rw [Heap.next_push]; omega⟩
   simp only [h0, if_false, Nat.zero_add, if_true]
   rw [if_neg (by omega)]
  ·simp only [List.length_nil, Nat.zero_add] at hroom hroom2
   refine ⟨.sl (some (H.next, 0)) ys.length (.op zero.length 0), H.push (.cells ys.flatten), H.next, ?_, ⟨all2, .inr (.inr ⟨rfl, cells_push_new H _⟩)⟩, .of (.push _ _), .inr (Nat.le_refl _), fun _ => by rw [Heap.next_push]; omega⟩
   simp only [h0, if_false, Nat.zero_add]
   rw [if_neg (by omega), hc]
   simp only [Option.bind_eq_bind, Option.bind_some]
   rw [if_neg (by omega)]
   simp only [Ahs.cut, Nat.zero_mul, Nat.add_zero, ho, if_true, List.take_zero, Option.bind_some, List.all_nil, Nat.le_refl, and_self, List.nil_append]
  ·have hxl := flatten_len (fun y hy' => (h.1 y hy').1)
   have hlt := Heap.cells_lt hc
   refine ⟨.sl (some (H.next, 0)) (xs.length + ys.length) (.op zero.length 0), (H.set bv .dead).push (.cells (xs.flatten ++ ys.flatten)), H.next, ?_, ⟨all2, .inr (.inr ⟨by rw [List.length_append], ?_⟩)⟩, ?_, .inr (Nat.le_refl _), fun _ => by rw [Heap.next_push, Heap.next_set]; omega⟩
   ·simp only [h0, if_false]
    rw [if_neg (by omega), hc]
    simp only [Option.bind_eq_bind, Option.bind_some, Nat.zero_add]
    rw [if_pos ⟨hl rfl, trivial⟩, hxl, if_neg (by rw [Nat.add_mul]; have := Nat.mul_pos (Nat.pos_of_ne_zero h0) hs; omega), if_pos ⟨rfl, flatten_one fun y hy' => (h.1 y hy').2⟩]
    rw [List.drop_zero]
   ·have := cells_push_new (H.set bv .dead) (xs.flatten ++ ys.flatten)
    rw [List.flatten_append]
    exact this
   ·exact ⟨by rw [Heap.next_push, Heap.next_set]; omega, fun c hcl hn => by rw [Heap.get_push_old _ _ _ (by rw [Heap.next_set]; omega), Heap.get_set_other _ _ _ _ (fun e => hn (by rw [e]; rfl))]⟩
theorem flatten_set {sz f : Nat} {y : AVal} (hf : f < sz) : ∀ {xs : List (List AVal)}, (∀ x ∈ xs, x.length = sz) → ∀ (k : Nat) (x : List AVal), xs[k]? = some x → (xs.set k (x.set f y)).flatten = xs.flatten.set (k * sz + f) y
 | [], _, k, x, h => by simp at h
 | z :: zs, he, 0, x, h => by
  simp at h; subst h
  have hz := he z (by simp)
  rw [List.set_cons_zero, List.flatten_cons, List.flatten_cons, Nat.zero_mul, Nat.zero_add, List.set_append_left _ _ (by omega)]
 | z :: zs, he, k + 1, x, h => by
  simp at h
  have hz := he z (by simp)
  have ih := flatten_set hf (y := y) (fun x hx => he x (by simp [hx])) k x h
  rw [List.set_cons_succ, List.flatten_cons, List.flatten_cons, ih, List.set_append_right _ _ (by rw [Nat.succ_mul]; omega)]
  congr 2
  rw [Nat.succ_mul]; omega
theorem own_store {lim : Nat} {H : Heap} {sz : Nat} {v : AVal} {xs : List (List AVal)} {bv : Nat} (h : Own H sz v xs bv) (hl : slBlk v = some bv → lim ≤ bv) {k : Nat} {x : List AVal} (hx : xs[k]? = some x) {f : Nat} (hf : f < sz) {y : AVal} (hy : y.cells = [y]) (h1 : y.one = true) :
  ∃ H', astore lim H 1 (slot v (k * sz + f)) y = some H' ∧ Own H' sz v (xs.set k (x.set f y)) bv ∧ Fram (fun c => slBlk v = some c) H H' ∧ H'.next = H.next := by
 have hk : k < xs.length := by
  rcases Nat.lt_or_ge k xs.length with h | h
  ·exact h
  ·rw [List.getElem?_eq_none h] at hx; simp at hx
 rcases h.2 with ⟨_, h2⟩ | ⟨o, cs, _, h2, _⟩ | ⟨h2, h3⟩
 ·rw [h2] at hk; simp at hk
 ·rw [h2] at hk; simp at hk
 ·have hfl := flatten_len (fun y hy' => (h.1 y hy').1)
  have hle : (k + 1) * sz ≤ xs.length * sz := Nat.mul_le_mul_right _ hk
  rw [Nat.succ_mul] at hle
  have hsl : slot v (k * sz + f) = .ptr (some (bv, k * sz + f)) := by rw [h2]; simp [slot]
  have hset := flatten_set (y := y) hf (fun y hy' => (h.1 y hy').1) k x hx
  refine ⟨H.set bv (.cells (xs.set k (x.set f y)).flatten), ?_, ⟨?_, .inr (.inr ⟨by rw [List.length_set]; exact h2, cells_set_same (Heap.cells_lt h3)⟩)⟩, Fram.set (by rw [h2]; rfl), Heap.next_set _ _ _⟩
  ·rw [hsl]
   exact astore_cell h3 (hl (by rw [h2]; rfl)) hy h1 (by omega) hset.symm
  ·intro z hz
   rcases List.mem_or_eq_of_mem_set hz with hz | rfl
   ·exact h.1 z hz
   ·have hm := h.1 x (List.mem_of_getElem? hx)
    refine ⟨by rw [List.length_set]; exact hm.1, ?_⟩
    rw [List.all_eq_true] at hm ⊢
    intro c hc
    rcases List.mem_or_eq_of_mem_set hc with hc | rfl
    ·exact hm.2 c hc
    ·exact h1
end Go.Ahs
