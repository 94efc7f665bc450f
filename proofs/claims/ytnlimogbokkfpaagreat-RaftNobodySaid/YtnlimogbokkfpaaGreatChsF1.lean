/- The abstract machine once more, written so that the kernel runs it fast; what it answers, the machine answers. -/
import Derived.Test.YtnlimogbokkfpaaGreatChsA20
set_option linter.unusedSimpArgs false
set_option linter.unusedVariables false
namespace Go.Ahs
noncomputable def cnd {α : Type} (b : Bool) (x y : α) : α := @Bool.rec (fun _ => α) y x b
theorem cnd_eq {α : Type} (b : Bool) (x y : α) : cnd b x y = if b = true then x else y := by cases b <;> rfl
noncomputable def topF : IntKind → Nat := @IntKind.rec (fun _ => Nat) 128 32768 2147483648 9223372036854775808 256 65536 4294967296 18446744073709551616
noncomputable def wrapF (k : IntKind) : Int → Int := @Int.rec (fun _ => Int) (fun a => cnd (Nat.blt a (topF k)) (.ofNat a) (k.wrap (.ofNat a))) (fun a => k.wrap (.negSucc a))
theorem wrapF_eq (k : IntKind) (n : Int) : wrapF k n = k.wrap n := by
 cases n with
 | negSucc a => rfl
 | ofNat a =>
  show cnd (Nat.blt a (topF k)) (.ofNat a) (k.wrap (.ofNat a)) = _
  rw [cnd_eq]
  split
  ·rename_i h
   have h : a < topF k := by simpa [Nat.blt_eq] using h
   cases k <;> simp only [topF] at h <;> simp only [IntKind.wrap, IntKind.bits, IntKind.signed] <;>
    simp only [Bool.true_and, Bool.false_and, decide_eq_true_eq, Bool.false_eq_true, if_false, Nat.reduceSub, Int.reducePow, Int.ofNat_eq_natCast, ge_iff_le] <;> (try split) <;> omega
  ·rfl
noncomputable def ltF : Int → Int → Bool := @Int.rec (fun _ => Int → Bool)
 (fun a => @Int.rec (fun _ => Bool) (fun b => Nat.blt a b) (fun _ => false))
 (fun a => @Int.rec (fun _ => Bool) (fun _ => true) (fun b => Nat.blt b a))
theorem ltF_eq (a b : Int) : ltF a b = decide (a < b) := by
 cases a <;> cases b <;> simp only [ltF]
 all_goals
  rw [Bool.eq_iff_iff]
  simp [Nat.blt_eq]
  try omega
noncomputable def leF (a b : Int) : Bool := cnd (ltF b a) false true
theorem leF_eq (a b : Int) : leF a b = decide (a ≤ b) := by
 simp only [leF, cnd_eq, ltF_eq, decide_eq_true_eq]
 by_cases h : b < a
 ·simp [h]
 ·simp [h]; omega
noncomputable def eqIF : Int → Int → Bool := @Int.rec (fun _ => Int → Bool)
 (fun a => @Int.rec (fun _ => Bool) (fun b => Nat.beq a b) (fun _ => false))
 (fun a => @Int.rec (fun _ => Bool) (fun _ => false) (fun b => Nat.beq a b))
theorem eqIF_eq (a b : Int) : eqIF a b = (a == b) := by
 cases a <;> cases b <;> simp only [eqIF]
 all_goals
  rw [Bool.eq_iff_iff]
  simp [Nat.beq_eq]
  try omega
noncomputable def addF : Int → Int → Int := @Int.rec (fun _ => Int → Int)
 (fun a => @Int.rec (fun _ => Int) (fun b => .ofNat (Nat.add a b)) (fun b => .ofNat a + .negSucc b))
 (fun a b => .negSucc a + b)
theorem addF_eq (a b : Int) : addF a b = a + b := by cases a <;> cases b <;> rfl
noncomputable def subF : Int → Int → Int := @Int.rec (fun _ => Int → Int)
 (fun a => @Int.rec (fun _ => Int) (fun b => cnd (Nat.ble b a) (.ofNat (Nat.sub a b)) (.ofNat a - .ofNat b)) (fun b => .ofNat a - .negSucc b))
 (fun a b => .negSucc a - b)
theorem subF_eq (a b : Int) : subF a b = a - b := by
 cases a <;> cases b <;> simp only [subF]
 rename_i a b
 rw [cnd_eq]
 split
 ·rename_i h
  have h : b ≤ a := by simpa [Nat.ble_eq] using h
  show ((a - b : Nat) : Int) = (a : Int) - b
  omega
 ·rfl
noncomputable def eqSF : List UInt8 → List UInt8 → Bool := @List.rec UInt8 (fun _ => List UInt8 → Bool)
 (@List.rec UInt8 (fun _ => Bool) true (fun _ _ _ => false))
 (fun a _ ih => @List.rec UInt8 (fun _ => Bool) false (fun b bs _ => cnd (Nat.beq a.toNat b.toNat) (ih bs) false))
theorem eqSF_eq : ∀ (a b : List UInt8), eqSF a b = (a == b)
 | [], [] => rfl
 | [], _ :: _ => rfl
 | _ :: _, [] => rfl
 | a :: as, b :: bs => by
  show cnd (Nat.beq a.toNat b.toNat) (eqSF as bs) false = _
  rw [cnd_eq, eqSF_eq as bs]
  by_cases h : a = b
  ·subst h; simp [Nat.beq_eq]
  ·have : ¬ a.toNat = b.toNat := fun e => h (UInt8.toNat_inj.1 e)
   simp [Nat.beq_eq, this, h]
noncomputable def ltSF : List UInt8 → List UInt8 → Bool := @List.rec UInt8 (fun _ => List UInt8 → Bool)
 (@List.rec UInt8 (fun _ => Bool) false (fun _ _ _ => true))
 (fun a _ ih => @List.rec UInt8 (fun _ => Bool) false (fun b bs _ => cnd (Nat.beq a.toNat b.toNat) (ih bs) (Nat.blt a.toNat b.toNat)))
theorem ltSF_eq : ∀ (a b : List UInt8), ltSF a b = Op.bytesLess a b
 | [], [] => rfl
 | [], _ :: _ => rfl
 | _ :: _, [] => rfl
 | a :: as, b :: bs => by
  show cnd (Nat.beq a.toNat b.toNat) (ltSF as bs) (Nat.blt a.toNat b.toNat) = _
  rw [cnd_eq, ltSF_eq as bs, Op.bytesLess]
  have hlt : (a < b) = (a.toNat < b.toNat) := by rw [UInt8.lt_iff_toNat_lt]
  by_cases h : a = b
  ·subst h
   simp [Nat.beq_eq, hlt]
  ·have : ¬ a.toNat = b.toNat := fun e => h (UInt8.toNat_inj.1 e)
   rw [if_neg (by simp [Nat.beq_eq, this])]
   have hb : (a == b) = false := by simp [h]
   rw [hb, Bool.false_and, Bool.or_false, Bool.eq_iff_iff]
   simp [Nat.blt_eq, hlt]
def Le {α : Type} (o o' : Option α) : Prop := ∀ v, o = some v → o' = some v
theorem Le.refl {α : Type} (o : Option α) : Le o o := fun _ h => h
theorem Le.of_eq {α : Type} {o o' : Option α} (h : o = o') : Le o o' := fun _ e => h ▸ e
theorem Le.none {α : Type} (o : Option α) : Le (none : Option α) o := fun _ h => by simp at h
theorem Le.map {α β : Type} {o o' : Option α} (f : α → β) (h : Le o o') : Le (o.map f) (o'.map f) := by
 intro v hv
 rw [Option.map_eq_some_iff] at hv
 obtain ⟨a, h1, h2⟩ := hv
 rw [h a h1, Option.map_some, h2]
noncomputable def kIdx : IntKind → Nat := @IntKind.rec (fun _ => Nat) 0 1 2 3 4 5 6 7
noncomputable def kEq (k k' : IntKind) : Bool := Nat.beq (kIdx k) (kIdx k')
theorem kEq_eq {k k' : IntKind} (h : kEq k k' = true) : k = k' := by
 unfold kEq at h
 rw [Nat.beq_eq] at h
 cases k <;> cases k' <;> first | rfl | (simp [kIdx] at h)
noncomputable def intF : BinOp → IntKind → Int → Int → Option AVal := @BinOp.rec (fun _ => IntKind → Int → Int → Option AVal)
 (fun k a b => some (.int k (wrapF k (addF a b))))
 (fun k a b => some (.int k (wrapF k (subF a b))))
 (fun k a b => abin .mul (.int k a) (.int k b))
 (fun k a b => abin .quo (.int k a) (.int k b))
 (fun k a b => abin .rem (.int k a) (.int k b))
 (fun k a b => abin .and (.int k a) (.int k b))
 (fun k a b => abin .or (.int k a) (.int k b))
 (fun k a b => abin .xor (.int k a) (.int k b))
 (fun k a b => abin .shl (.int k a) (.int k b))
 (fun k a b => abin .shr (.int k a) (.int k b))
 (fun k a b => abin .andNot (.int k a) (.int k b))
 (fun _ a b => some (.bool (eqIF a b)))
 (fun _ a b => some (.bool (cnd (eqIF a b) false true)))
 (fun _ a b => some (.bool (ltF a b)))
 (fun _ a b => some (.bool (leF a b)))
 (fun _ a b => some (.bool (ltF b a)))
 (fun _ a b => some (.bool (leF b a)))
theorem intF_eq (op : BinOp) (k : IntKind) (a b : Int) : intF op k a b = abin op (.int k a) (.int k b) := by
 cases op <;> simp only [intF, abin_add, abin_sub, abin_eql, abin_neq, abin_lss, abin_leq, abin_gtr, abin_geq, wrapF_eq, addF_eq, subF_eq, eqIF_eq, ltF_eq, leF_eq]
 rw [cnd_eq]
 simp only [bne]
 cases (a == b) <;> rfl
noncomputable def strF : BinOp → List UInt8 → List UInt8 → Option AVal := @BinOp.rec (fun _ => List UInt8 → List UInt8 → Option AVal)
 (abinStr .add) (abinStr .sub) (abinStr .mul) (abinStr .quo) (abinStr .rem) (abinStr .and) (abinStr .or) (abinStr .xor) (abinStr .shl) (abinStr .shr) (abinStr .andNot)
 (fun a b => some (.bool (eqSF a b)))
 (fun a b => some (.bool (cnd (eqSF a b) false true)))
 (fun a b => some (.bool (ltSF a b)))
 (abinStr .leq) (abinStr .gtr) (abinStr .geq)
theorem strF_eq (op : BinOp) (a b : List UInt8) : strF op a b = abinStr op a b := by
 cases op <;> simp only [strF, abinStr, eqSF_eq, ltSF_eq]
 rw [cnd_eq]
 cases (a == b) <;> rfl
noncomputable def abinF (op : BinOp) (x y : AVal) : Option AVal :=
 match x with
 | .int k a => match y with
  | .int k' b => cnd (kEq k k') (intF op k a b) (abin op (.int k a) (.int k' b))
  | _ => none
 | .str a => match y with
  | .str b => strF op a b
  | _ => none
 | _ => none
theorem abinF_le (op : BinOp) (x y : AVal) : Le (abinF op x y) (abin op x y) := by
 unfold abinF
 split
 ·split
  ·rename_i k a _ k' b
   rw [cnd_eq]
   split
   ·rename_i h
    have := kEq_eq h
    subst this
    rw [intF_eq]; exact .refl _
   ·exact .refl _
  ·exact .none _
 ·split
  ·rw [strF_eq]; exact .refl _
  ·exact .none _
 ·exact .none _
noncomputable def nthF {α : Type} : List α → Nat → Option α := @List.rec α (fun _ => Nat → Option α) (fun _ => none) (fun a _ ih n => cnd (Nat.beq n 0) (some a) (ih (Nat.pred n)))
theorem nthF_eq {α : Type} : ∀ (l : List α) (n : Nat), nthF l n = l[n]?
 | [], n => by simp [nthF]
 | a :: l, 0 => rfl
 | a :: l, n + 1 => by
  show nthF l n = _
  rw [nthF_eq l n, List.getElem?_cons_succ]
noncomputable def takeX {α : Type} : Nat → List α → Option (List α) := @Nat.rec (fun _ => List α → Option (List α)) (fun _ => some [])
 (fun _ ih => @List.rec α (fun _ => Option (List α)) none (fun a l _ => (ih l).map (a :: ·)))
theorem takeX_eq {α : Type} : ∀ (n : Nat) (l : List α), takeX n l = if n ≤ l.length then some (l.take n) else none
 | 0, l => by
  show some [] = _
  simp
 | n + 1, [] => rfl
 | n + 1, a :: l => by
  show (takeX n l).map (a :: ·) = _
  rw [takeX_eq n l]
  by_cases h : n ≤ l.length <;> simp [h]
noncomputable def atX {α β : Type} (f : List α → Option β) : Nat → List α → Option β := @Nat.rec (fun _ => List α → Option β) f
 (fun _ ih => @List.rec α (fun _ => Option β) none (fun _ l _ => ih l))
theorem atX_eq {α β : Type} (f : List α → Option β) : ∀ (n : Nat) (l : List α), atX f n l = if n ≤ l.length then f (l.drop n) else none
 | 0, l => by
  show f l = _
  simp
 | n + 1, [] => rfl
 | n + 1, a :: l => by
  show atX f n l = _
  rw [atX_eq f n l]
  by_cases h : n ≤ l.length <;> simp [h]
noncomputable def cutF (cs : List AVal) (o n : Nat) : Option (List AVal) := atX (takeX n) o cs
theorem cutF_eq (cs : List AVal) (o n : Nat) : cutF cs o n = cut cs o n := by
 unfold cutF cut
 rw [atX_eq]
 by_cases h : o ≤ cs.length
 ·rw [if_pos h, takeX_eq]
  by_cases h2 : o + n ≤ cs.length
  ·rw [if_pos h2, if_pos (by simp; omega)]
  ·rw [if_neg h2, if_neg (by simp; omega)]
 ·rw [if_neg h, if_neg (by omega)]
noncomputable def overX {α : Type} : List α → List α → Option (List α) := @List.rec α (fun _ => List α → Option (List α)) some
 (fun a _ ih => @List.rec α (fun _ => Option (List α)) none (fun _ l _ => (ih l).map (a :: ·)))
theorem overX_eq {α : Type} : ∀ (xs l : List α), overX xs l = if xs.length ≤ l.length then some (xs ++ l.drop xs.length) else none
 | [], l => by simp [overX]
 | x :: xs, [] => rfl
 | x :: xs, a :: l => by
  show (overX xs l).map (x :: ·) = _
  rw [overX_eq xs l]
  by_cases h : xs.length ≤ l.length <;> simp [h]
noncomputable def putX (xs : List AVal) : Nat → List AVal → Option (List AVal) := @Nat.rec (fun _ => List AVal → Option (List AVal)) (overX xs)
 (fun _ ih => @List.rec AVal (fun _ => Option (List AVal)) none (fun a l _ => (ih l).map (a :: ·)))
theorem putX_eq (xs : List AVal) : ∀ (o : Nat) (l : List AVal), putX xs o l = if o + xs.length ≤ l.length then some (put l o xs) else none
 | 0, l => by
  show overX xs l = _
  rw [overX_eq]
  simp [put]
 | o + 1, [] => by
  show none = _
  simp
 | o + 1, a :: l => by
  show (putX xs o l).map (a :: ·) = _
  rw [putX_eq xs o l]
  by_cases h : o + xs.length ≤ l.length
  ·rw [if_pos h, if_pos (by simp; omega)]
   simp [put, Nat.add_right_comm o 1]
  ·rw [if_neg h, if_neg (by simp; omega)]
   rfl
noncomputable def lenF {α : Type} : List α → Nat := @List.rec α (fun _ => Nat) 0 (fun _ _ ih => Nat.succ ih)
theorem lenF_eq {α : Type} : ∀ l : List α, lenF l = l.length
 | [] => rfl
 | a :: l => by show Nat.succ (lenF l) = _; rw [lenF_eq l]; rfl
noncomputable def allOneF : List AVal → Bool := @List.rec AVal (fun _ => Bool) true (fun a _ ih => cnd a.one ih false)
theorem allOneF_eq : ∀ l : List AVal, allOneF l = l.all (·.one)
 | [] => rfl
 | a :: l => by
  show cnd a.one (allOneF l) false = _
  rw [cnd_eq, allOneF_eq l, List.all_cons]
  cases a.one <;> rfl
noncomputable def trGet : Tr → Nat → Option Blk := @Tr.rec (fun _ => Nat → Option Blk) (fun _ => none)
 (fun _ v _ ihl ihr n => cnd (Nat.beq n 0) v (cnd (Nat.beq (Nat.mod n 2) 1) (ihl (Nat.div n 2)) (ihr (Nat.pred (Nat.div n 2)))))
theorem trGet_eq : ∀ (t : Tr) (n : Nat), trGet t n = t.get n
 | .lf, n => rfl
 | .nd l v r, n => by
  show cnd (Nat.beq n 0) v (cnd (Nat.beq (n % 2) 1) (trGet l (n / 2)) (trGet r (n / 2 - 1))) = _
  rw [cnd_eq, cnd_eq, trGet_eq l, trGet_eq r, Tr.get]
  simp only [Nat.beq_eq]
noncomputable def trSet (x : Blk) : Nat → Tr → Nat → Tr := @Nat.rec (fun _ => Tr → Nat → Tr) (fun t _ => t)
 (fun _ ih t n => cnd (Nat.beq n 0) (.nd t.left (some x) t.right) (cnd (Nat.beq (Nat.mod n 2) 1) (.nd (ih t.left (Nat.div n 2)) t.val t.right) (.nd t.left t.val (ih t.right (Nat.pred (Nat.div n 2))))))
theorem trSet_eq (x : Blk) : ∀ (f g : Nat) (t : Tr) (n : Nat), n + 1 < 2 ^ f → n < g → trSet x f t n = Tr.set x g t n
 | f, 0, t, n, _, h => by omega
 | 0, g + 1, t, n, h, h' => by simp at h
 | f + 1, g + 1, t, n, h, h' => by
  have hp : 2 ^ (f + 1) = 2 * 2 ^ f := by rw [Nat.pow_succ]; omega
  show cnd (Nat.beq n 0) (Tr.nd t.left (some x) t.right) (cnd (Nat.beq (n % 2) 1) (Tr.nd (trSet x f t.left (n / 2)) t.val t.right) (Tr.nd t.left t.val (trSet x f t.right (n / 2 - 1)))) = _
  rw [cnd_eq, cnd_eq, Tr.set]
  simp only [Nat.beq_eq]
  by_cases h0 : n = 0
  ·rw [if_pos h0, if_pos h0]
  ·rw [if_neg h0, if_neg h0]
   by_cases h1 : n % 2 = 1
   ·rw [if_pos h1, if_pos h1, trSet_eq x f g _ _ (by omega) (by omega)]
   ·rw [if_neg h1, if_neg h1, trSet_eq x f g _ _ (by omega) (by omega)]
noncomputable def heapF (n : Nat) : Bool := Nat.blt n 1099511627775
theorem heapF_lt {n : Nat} (h : heapF n = true) : n + 1 < 2 ^ 40 := by
 have : n < 1099511627775 := by simpa [heapF, Nat.blt_eq] using h
 omega
noncomputable def hGet (H : Heap) (b : Nat) : Option Blk := cnd (Nat.blt b H.next) (trGet H.tr b) none
theorem hGet_eq (H : Heap) (b : Nat) : hGet H b = H.get b := by
 unfold hGet Heap.get
 rw [cnd_eq, trGet_eq]
 simp only [Nat.blt_eq]
noncomputable def hSet (H : Heap) (b : Nat) (x : Blk) : Heap := cnd (heapF b) ⟨H.next, trSet x 40 H.tr b⟩ (H.set b x)
theorem hSet_eq (H : Heap) (b : Nat) (x : Blk) : hSet H b x = H.set b x := by
 unfold hSet
 rw [cnd_eq]
 split
 ·rename_i h
  rw [trSet_eq x 40 (b + 1) _ _ (heapF_lt h) (Nat.lt_succ_self _)]
  rfl
 ·rfl
noncomputable def hPush (H : Heap) (x : Blk) : Heap := cnd (heapF H.next) ⟨Nat.succ H.next, trSet x 40 H.tr H.next⟩ (H.push x)
theorem hPush_eq (H : Heap) (x : Blk) : hPush H x = H.push x := by
 unfold hPush
 rw [cnd_eq]
 split
 ·rename_i h
  rw [trSet_eq x 40 (H.next + 1) _ _ (heapF_lt h) (Nat.lt_succ_self _)]
  rfl
 ·rfl
def blkCells : Option Blk → Option (List AVal)
 | some (.cells cs) => some cs
 | _ => none
noncomputable def hCells (H : Heap) (b : Nat) : Option (List AVal) := blkCells (hGet H b)
theorem hCells_eq (H : Heap) (b : Nat) : hCells H b = H.cells b := by
 unfold hCells
 rw [hGet_eq]
 rfl
def addrOf : AVal → Option (Nat × Nat)
 | .ptr a => a
 | _ => none
noncomputable def loadF (H : Heap) (agg : Option Nat) (a : AVal) : Option AVal :=
 match addrOf a with
 | some (b, o) => match hCells H b with
  | some cs => match agg with
   | none => nthF cs o
   | some n => (cutF cs o n).map .agg
  | none => none
 | none => none
theorem loadF_le (H : Heap) (agg : Option Nat) (a : AVal) : Le (loadF H agg a) (aload H agg a) := by
 unfold loadF
 split
 ·rename_i b o ha
  obtain rfl : a = .ptr (some (b, o)) := by cases a <;> simp [addrOf] at ha; rw [ha]
  simp only [hCells_eq, aload]
  split
  ·rename_i cs hc
   simp only [hc]
   cases agg with
   | none => simp only [nthF_eq]; exact .refl _
   | some n => simp only [cutF_eq]; exact .refl _
  ·exact .none _
 ·exact .none _
noncomputable def storeF (lim : Nat) (H : Heap) (n : Nat) (a x : AVal) : Option Heap :=
 match addrOf a with
 | some (b, o) => match hCells H b with
  | some cs => cnd (Nat.ble lim b) (cnd (Nat.beq (lenF x.cells) n) (cnd (allOneF x.cells) ((putX x.cells o cs).map fun cs => hSet H b (.cells cs)) none) none) none
  | none => none
 | none => none
theorem storeF_le (lim : Nat) (H : Heap) (n : Nat) (a x : AVal) : Le (storeF lim H n a x) (astore lim H n a x) := by
 unfold storeF
 split
 ·rename_i b o ha
  obtain rfl : a = .ptr (some (b, o)) := by cases a <;> simp [addrOf] at ha; rw [ha]
  simp only [hCells_eq, astore]
  split
  ·rename_i cs hc
   simp only [hc, cnd_eq, Nat.ble_eq, Nat.beq_eq, lenF_eq, allOneF_eq, putX_eq, hSet_eq]
   intro v hv
   split at hv
   ·rename_i h1
    split at hv
    ·rename_i h2
     split at hv
     ·rename_i h3
      rw [Option.map_eq_some_iff] at hv
      obtain ⟨cs', h4, h5⟩ := hv
      split at h4
      ·rename_i h6
       simp at h4; subst h4
       rw [if_pos ⟨h1, h2, by omega, h3⟩, h5]
      ·simp at h4
     ·simp at hv
    ·simp at hv
   ·simp at hv
  ·exact .none _
 ·exact .none _
noncomputable def natF : AVal → Option Nat
 | .int _ n => @Int.rec (fun _ => Option Nat) some (fun _ => none) n
 | _ => none
theorem natF_eq (v : AVal) : natF v = natOf v := by
 cases v with
 | int k n =>
  cases n with
  | ofNat a => rfl
  | negSucc a =>
   show none = (if 0 ≤ Int.negSucc a then some (Int.negSucc a).toNat else none)
   rw [if_neg (by omega)]
 | _ => rfl
noncomputable def idxAddrF (arr : Option Nat) (sz : Nat) (x i : AVal) : Option AVal :=
 match natF i with
 | some j => match arr with
  | none => match x with
   | .sl (some (b, o)) n _ => cnd (Nat.blt j n) (some (.ptr (some (b, Nat.add o (Nat.mul j sz))))) none
   | _ => none
  | some n => match x with
   | .ptr (some (b, o)) => cnd (Nat.blt j n) (some (.ptr (some (b, Nat.add o (Nat.mul j sz))))) none
   | _ => none
 | none => none
theorem idxAddrF_le (arr : Option Nat) (sz : Nat) (x i : AVal) : Le (idxAddrF arr sz x i) (aindexAddr arr sz x i) := by
 unfold idxAddrF aindexAddr
 rw [natF_eq]
 split
 ·rename_i j hj
  simp only [hj]
  split
  ·split
   ·rw [cnd_eq]; simp only [Nat.blt_eq]; exact .refl _
   ·exact .none _
  ·split
   ·rw [cnd_eq]; simp only [Nat.blt_eq]; exact .refl _
   ·exact .none _
 ·exact .none _
noncomputable def partF (cs : List AVal) (off : Nat) (agg : Option Nat) : Option AVal :=
 match agg with
 | none => nthF cs off
 | some n => (cutF cs off n).map .agg
theorem partF_eq (cs : List AVal) (off : Nat) (agg : Option Nat) : partF cs off agg = partOf cs off agg := by
 unfold partF partOf
 cases agg with
 | none => simp only [nthF_eq]
 | some n => simp only [cutF_eq]
inductive TV where
 | lf
 | nd (l : TV) (v : AVal) (r : TV)
def TV.left : TV → TV
 | .lf => .lf
 | .nd l _ _ => l
def TV.right : TV → TV
 | .lf => .lf
 | .nd _ _ r => r
def TV.val : TV → AVal
 | .lf => und
 | .nd _ v _ => v
noncomputable def TV.get : TV → Nat → AVal := @TV.rec (fun _ => Nat → AVal) (fun _ => und)
 (fun _ v _ ihl ihr n => cnd (Nat.beq n 0) v (cnd (Nat.beq (Nat.mod n 2) 1) (ihl (Nat.div n 2)) (ihr (Nat.pred (Nat.div n 2)))))
noncomputable def TV.setN (x : AVal) : Nat → TV → Nat → TV := @Nat.rec (fun _ => TV → Nat → TV) (fun t _ => t)
 (fun _ ih t n => cnd (Nat.beq n 0) (.nd t.left x t.right) (cnd (Nat.beq (Nat.mod n 2) 1) (.nd (ih t.left (Nat.div n 2)) t.val t.right) (.nd t.left t.val (ih t.right (Nat.pred (Nat.div n 2))))))
noncomputable def TV.set (t : TV) (n : Nat) (x : AVal) : TV := TV.setN x 20 t n
theorem TV.get_eq (t : TV) (n : Nat) : t.get n = if n = 0 then t.val else if n % 2 = 1 then t.left.get (n / 2) else t.right.get (n / 2 - 1) := by
 cases t with
 | lf =>
  simp only [TV.val, TV.left, TV.right]
  show und = if n = 0 then und else if n % 2 = 1 then und else und
  split
  ·rfl
  ·split <;> rfl
 | nd l v r =>
  show cnd (Nat.beq n 0) v (cnd (Nat.beq (n % 2) 1) (l.get (n / 2)) (r.get (n / 2 - 1))) = _
  rw [cnd_eq, cnd_eq]
  simp only [Nat.beq_eq, TV.val, TV.left, TV.right]
theorem TV.get_nd (l : TV) (v : AVal) (r : TV) (n : Nat) : (TV.nd l v r).get n = if n = 0 then v else if n % 2 = 1 then l.get (n / 2) else r.get (n / 2 - 1) := by rw [TV.get_eq]; rfl
theorem TV.get_setN (x : AVal) : ∀ (f : Nat) (t : TV) (n m : Nat), n + 1 < 2 ^ f → (TV.setN x f t n).get m = if m = n then x else t.get m
 | 0, t, n, m, h => by simp at h
 | f + 1, t, n, m, h => by
  have hp : 2 ^ (f + 1) = 2 * 2 ^ f := by rw [Nat.pow_succ]; omega
  show TV.get (cnd (Nat.beq n 0) (.nd t.left x t.right) (cnd (Nat.beq (n % 2) 1) (.nd (TV.setN x f t.left (n / 2)) t.val t.right) (.nd t.left t.val (TV.setN x f t.right (n / 2 - 1))))) m = _
  rw [cnd_eq, cnd_eq, TV.get_eq t m]
  simp only [Nat.beq_eq]
  by_cases h0 : n = 0
  ·subst h0
   rw [if_pos rfl, TV.get_nd]
   by_cases hm : m = 0 <;> simp [hm]
  ·rw [if_neg h0]
   by_cases h1 : n % 2 = 1
   ·rw [if_pos h1, TV.get_nd]
    by_cases hm : m = 0
    ·subst hm; simp [Ne.symm h0]
    ·by_cases hm1 : m % 2 = 1
     ·simp only [hm, hm1, if_true, if_false]
      rw [TV.get_setN x f _ _ _ (by omega)]
      by_cases e : m = n
      ·simp [e]
      ·rw [if_neg (by omega), if_neg e]
     ·simp only [hm, hm1, if_false]
      rw [if_neg (by omega)]
   ·rw [if_neg h1, TV.get_nd]
    by_cases hm : m = 0
    ·subst hm; simp [Ne.symm h0]
    ·by_cases hm1 : m % 2 = 1
     ·simp only [hm, hm1, if_true, if_false]
      rw [if_neg (by omega)]
     ·simp only [hm, hm1, if_false]
      rw [TV.get_setN x f _ _ _ (by omega)]
      by_cases e : m = n
      ·simp [e]
      ·rw [if_neg (by omega), if_neg e]
def RepT (t : TV) (T : List AVal) : Prop := ∀ i, t.get i = T.getD i und
theorem RepT.set {t : TV} {T : List AVal} (h : RepT t T) {d : Nat} (hd : d < T.length) (hd2 : d < 100000) (v : AVal) : RepT (t.set d v) (T.set d v) := by
 intro i
 rw [TV.set, TV.get_setN v 20 t d i (by omega), h i]
 simp only [List.getD_eq_getElem?_getD, List.getElem?_set]
 by_cases e : i = d
 ·subst e; simp [hd]
 ·rw [if_neg e, if_neg (fun e' => e e'.symm)]
noncomputable def ofL : List AVal → Nat → TV → TV := @List.rec AVal (fun _ => Nat → TV → TV) (fun _ t => t) (fun v _ ih i t => ih (Nat.succ i) (t.set i v))
theorem ofL_get : ∀ (l : List AVal) (i : Nat) (t : TV) (j : Nat), i + l.length < 100000 → (ofL l i t).get j = if i ≤ j ∧ j < i + l.length then l.getD (j - i) und else t.get j
 | [], i, t, j, _ => by
  show t.get j = _
  rw [if_neg (by simp)]
 | v :: l, i, t, j, h => by
  show (ofL l (i + 1) (t.set i v)).get j = _
  simp only [List.length_cons] at h
  rw [ofL_get l (i + 1) _ j (by omega), TV.set, TV.get_setN v 20 t i j (by omega)]
  simp only [List.length_cons]
  by_cases h1 : i + 1 ≤ j ∧ j < i + 1 + l.length
  ·rw [if_pos h1, if_pos (by omega)]
   obtain ⟨k, hk⟩ : ∃ k, j - i = k + 1 := ⟨j - i - 1, by omega⟩
   rw [hk, show j - (i + 1) = k by omega]
   rfl
  ·rw [if_neg h1]
   by_cases e : j = i
   ·subst e
    rw [if_pos rfl, if_pos (by omega)]
    simp
   ·rw [if_neg e, if_neg (by omega)]
theorem RepT.enter {args : List AVal} {k : Nat} (h : args.length < 100000) : RepT (ofL args 0 .lf) (args ++ List.replicate k und) := by
 intro i
 rw [ofL_get args 0 .lf i (by omega)]
 simp only [List.getD_eq_getElem?_getD, List.getElem?_append, Nat.sub_zero, Nat.zero_le, true_and, Nat.zero_add]
 by_cases hi : i < args.length
 ·rw [if_pos hi, if_pos hi]
 ·rw [if_neg hi, if_neg hi]
  show und = _
  rw [List.getElem?_replicate]
  split <;> rfl
end Go.Ahs
