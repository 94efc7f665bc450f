/- How the abstract machine's values and heap stand to the model's. -/
import Derived.Test.YtnlimogbokkfpaaGreatChsA2
import Derived.Laws.Cells
namespace Go.Ahs
structure Loc where
 blk : Nat
 d : Nat
 csz : Nat
abbrev Mp := Nat → Option Loc
inductive VRel (ρ : Mp) : AVal → Value → Prop where
 | int (k : IntKind) (n : Int) : VRel ρ (.int k n) (.int k n)
 | bool (b : Bool) : VRel ρ (.bool b) (.bool b)
 | str {l : List UInt8} {s : ByteArray} (h : s.data.toList = l) : VRel ρ (.str l) (.string s)
 | ptrN : VRel ρ (.ptr none) (.pointer none)
 | ptr {b o : Nat} {L : Loc} (h : ρ b = some L) : VRel ρ (.ptr (some (b, o))) (.pointer (some ⟨L.blk, L.d + o, none⟩))
 | slN : VRel ρ (.sl none 0 (.ex 0)) (.slice none 0 0)
 | slX {b o n c : Nat} {L : Loc} (h : ρ b = some L) (hn : n ≤ c) : VRel ρ (.sl (some (b, o)) n (.ex c)) (.slice (some ⟨L.blk, L.d + o, none⟩) n c)
 | slO {b o n e c k : Nat} {L : Loc} (h : ρ b = some L) (hn : n ≤ c) (hc : L.d + o + c * e = L.csz) (hk : k ≤ c) :
   VRel ρ (.sl (some (b, o)) n (.op e k)) (.slice (some ⟨L.blk, L.d + o, none⟩) n c)
 | slE {b o e : Nat} {a : Addr} {L : Loc} (h : ρ b = some L) (hc : L.d + o = L.csz) : VRel ρ (.sl (some (b, o)) 0 (.op e 0)) (.slice (some a) 0 0)
 | slU {b o n c : Nat} {L : Loc} (h : ρ b = some L) (hn : n ≤ c) : VRel ρ (.sl (some (b, o)) n .un) (.slice (some ⟨L.blk, L.d + o, none⟩) n c)
 | slF {b o : Nat} {a : Addr} {L : Loc} (h : ρ b = some L) : VRel ρ (.sl (some (b, o)) 0 .un) (.slice (some a) 0 0)
 | slG {b o : Nat} {a : Addr} {L : Loc} (h : ρ b = some L) : VRel ρ (.sl (some (b, o)) 0 (.ex 0)) (.slice (some a) 0 0)
 | mapN : VRel ρ (.map none) (.map none)
 | map {b : Nat} {L : Loc} (h : ρ b = some L) : VRel ρ (.map (some b)) (.map (some L.blk))
 | fn {f : FuncId} {xs ys : List AVal} {as bs : Array Value} (h1 : xs.length = as.size) (h2 : ys.length = bs.size)
   (h3 : ∀ (i : Nat) (v : AVal) (v' : Value), xs[i]? = some v → as[i]? = some v' → VRel ρ v v') (h4 : ∀ (i : Nat) (v : AVal) (v' : Value), ys[i]? = some v → bs[i]? = some v' → VRel ρ v v') :
   VRel ρ (.fn f xs ys) (.func (.func f) as bs)
 | nilFn : VRel ρ .nilFn .nilFunc
 | iface {t : TypeId} {v : AVal} {v' : Value} (h : VRel ρ v v') : VRel ρ (.iface t v) (.iface t v')
 | nilIface : VRel ρ .nilIface .nilIface
 | agg {cs : List AVal} {vs : Array Value} (h1 : cs.length = vs.size) (h2 : ∀ (i : Nat) (v : AVal) (v' : Value), cs[i]? = some v → vs[i]? = some v' → VRel ρ v v') :
   VRel ρ (.agg cs) (.agg vs)
 | tup {cs : List AVal} {vs : Array Value} (h1 : cs.length = vs.size) (h2 : ∀ (i : Nat) (v : AVal) (v' : Value), cs[i]? = some v → vs[i]? = some v' → VRel ρ v v') :
   VRel ρ (.tup cs) (.tuple vs)
 | yl {b : Nat} {L : Loc} (h : ρ b = some L) : VRel ρ (.yl b) (.func (.yield L.blk) #[] #[])
 | itr (r : Nat) : VRel ρ (.itr r) (.pointer (some ⟨r, 0, none⟩))
 | mth {name : String} {t : TypeId} {v : AVal} {v' : Value} (h : VRel ρ v v') : VRel ρ (.mth name t v) (.func (.method name) #[.iface t v'] #[])
def LRel (ρ : Mp) (xs : List AVal) (as : List Value) : Prop := xs.length = as.length ∧ ∀ (i : Nat) (v : AVal) (v' : Value), xs[i]? = some v → as[i]? = some v' → VRel ρ v v'
def Ext (ρ ρ' : Mp) : Prop := ∀ b L, ρ b = some L → ρ' b = some L
theorem Ext.refl (ρ : Mp) : Ext ρ ρ := fun _ _ h => h
theorem Ext.trans {a b c : Mp} (h : Ext a b) (h' : Ext b c) : Ext a c := fun x L e => h' x L (h x L e)
theorem VRel.ext {ρ ρ' : Mp} (he : Ext ρ ρ') {v : AVal} {v' : Value} (h : VRel ρ v v') : VRel ρ' v v' := by
 induction h with
 | int k n => exact .int k n
 | bool b => exact .bool b
 | str h => exact .str h
 | ptrN => exact .ptrN
 | ptr h => exact .ptr (he _ _ h)
 | slN => exact .slN
 | slX h hn => exact .slX (he _ _ h) hn
 | slO h hn hc hk => exact .slO (he _ _ h) hn hc hk
 | slE h hc => exact .slE (he _ _ h) hc
 | slU h hn => exact .slU (he _ _ h) hn
 | slF h => exact .slF (he _ _ h)
 | slG h => exact .slG (he _ _ h)
 | mapN => exact .mapN
 | map h => exact .map (he _ _ h)
 | fn h1 h2 _ _ ih3 ih4 => exact .fn h1 h2 ih3 ih4
 | nilFn => exact .nilFn
 | iface _ ih => exact .iface ih
 | nilIface => exact .nilIface
 | agg h1 _ ih => exact .agg h1 ih
 | tup h1 _ ih => exact .tup h1 ih
 | yl h => exact .yl (he _ _ h)
 | itr r => exact .itr r
 | mth _ ih => exact .mth ih
theorem LRel.ext {ρ ρ' : Mp} (he : Ext ρ ρ') {xs : List AVal} {as : List Value} (h : LRel ρ xs as) : LRel ρ' xs as :=
 ⟨h.1, fun i v v' a b => (h.2 i v v' a b).ext he⟩
theorem LRel.nil (ρ : Mp) : LRel ρ [] [] := ⟨rfl, fun i v v' a _ => by simp at a⟩
theorem LRel.cons {ρ : Mp} {x : AVal} {a : Value} {xs : List AVal} {as : List Value} (h : VRel ρ x a) (ht : LRel ρ xs as) : LRel ρ (x :: xs) (a :: as) := by
 refine ⟨by simp [ht.1], fun i v v' e e' => ?_⟩
 cases i with
 | zero => simp at e e'; subst e e'; exact h
 | succ i => simp at e e'; exact ht.2 i v v' e e'
theorem LRel.head {ρ : Mp} {x : AVal} {a : Value} {xs : List AVal} {as : List Value} (h : LRel ρ (x :: xs) (a :: as)) : VRel ρ x a := h.2 0 x a rfl rfl
theorem LRel.tail {ρ : Mp} {x : AVal} {a : Value} {xs : List AVal} {as : List Value} (h : LRel ρ (x :: xs) (a :: as)) : LRel ρ xs as :=
 ⟨by have := h.1; simpa using this, fun i v v' e e' => h.2 (i + 1) v v' (by simpa using e) (by simpa using e')⟩
theorem LRel.append {ρ : Mp} {xs ys : List AVal} {as bs : List Value} (h : LRel ρ xs as) (h' : LRel ρ ys bs) : LRel ρ (xs ++ ys) (as ++ bs) := by
 refine ⟨by simp [h.1, h'.1], fun i v v' e e' => ?_⟩
 rw [List.getElem?_append] at e e'
 rw [← h.1] at e'
 split at e
 ·rename_i hi; rw [if_pos hi] at e'; exact h.2 i v v' e e'
 ·rename_i hi; rw [if_neg hi] at e'; exact h'.2 _ v v' e e'
theorem LRel.take {ρ : Mp} {xs : List AVal} {as : List Value} (h : LRel ρ xs as) (n : Nat) : LRel ρ (xs.take n) (as.take n) := by
 refine ⟨by simp [h.1], fun i v v' e e' => ?_⟩
 rw [List.getElem?_take] at e e'
 split at e
 ·rename_i hi; rw [if_pos hi] at e'; exact h.2 i v v' e e'
 ·simp at e
theorem LRel.drop {ρ : Mp} {xs : List AVal} {as : List Value} (h : LRel ρ xs as) (n : Nat) : LRel ρ (xs.drop n) (as.drop n) := by
 refine ⟨by simp [h.1], fun i v v' e e' => ?_⟩
 rw [List.getElem?_drop] at e e'
 exact h.2 _ v v' e e'
theorem LRel.get {ρ : Mp} {xs : List AVal} {as : List Value} (h : LRel ρ xs as) {i : Nat} {v : AVal} (e : xs[i]? = some v) : ∃ v', as[i]? = some v' ∧ VRel ρ v v' := by
 have hi : i < xs.length := by
  rcases Nat.lt_or_ge i xs.length with h | h
  ·exact h
  ·rw [List.getElem?_eq_none h] at e; simp at e
 have hi' : i < as.length := h.1 ▸ hi
 exact ⟨as[i], List.getElem?_eq_getElem hi', h.2 i v _ e (List.getElem?_eq_getElem hi')⟩
theorem LRel.map_same {ρ : Mp} {α : Type} (l : List α) (f : α → AVal) (g : α → Value) (h : ∀ x ∈ l, VRel ρ (f x) (g x)) : LRel ρ (l.map f) (l.map g) := by
 induction l with
 | nil => exact LRel.nil ρ
 | cons x xs ih => exact LRel.cons (h x (by simp)) (ih fun y hy => h y (by simp [hy]))
theorem LRel.replicate {ρ : Mp} {x : AVal} {a : Value} (n : Nat) (h : VRel ρ x a) : LRel ρ (List.replicate n x) (List.replicate n a) := by
 induction n with
 | zero => exact LRel.nil ρ
 | succ n ih => exact LRel.cons h ih
theorem LRel.flat {ρ : Mp} {x : List AVal} {a : List Value} (n : Nat) (h : LRel ρ x a) : LRel ρ (List.replicate n x).flatten (List.replicate n a).flatten := by
 induction n with
 | zero => exact LRel.nil ρ
 | succ n ih => simp only [List.replicate_succ, List.flatten_cons]; exact LRel.append h ih
theorem VRel.agg_of {ρ : Mp} {cs : List AVal} {vs : Array Value} (h : LRel ρ cs vs.toList) : VRel ρ (.agg cs) (.agg vs) :=
 .agg (by simpa using h.1) fun i v v' e e' => h.2 i v v' e (by simpa using e')
theorem VRel.tup_of {ρ : Mp} {cs : List AVal} {vs : Array Value} (h : LRel ρ cs vs.toList) : VRel ρ (.tup cs) (.tuple vs) :=
 .tup (by simpa using h.1) fun i v v' e e' => h.2 i v v' e (by simpa using e')
theorem VRel.agg_inv {ρ : Mp} {cs : List AVal} {v' : Value} (h : VRel ρ (.agg cs) v') : ∃ vs, v' = .agg vs ∧ LRel ρ cs vs.toList := by
 cases h with
 | agg h1 h2 => exact ⟨_, rfl, by simpa using h1, fun i v v' e e' => h2 i v v' e (by simpa using e')⟩
theorem VRel.tup_inv {ρ : Mp} {cs : List AVal} {v' : Value} (h : VRel ρ (.tup cs) v') : ∃ vs, v' = .tuple vs ∧ LRel ρ cs vs.toList := by
 cases h with
 | tup h1 h2 => exact ⟨_, rfl, by simpa using h1, fun i v v' e e' => h2 i v v' e (by simpa using e')⟩
theorem VRel.fn_inv {ρ : Mp} {f : FuncId} {xs ys : List AVal} {v' : Value} (h : VRel ρ (.fn f xs ys) v') :
  ∃ as bs, v' = .func (.func f) as bs ∧ LRel ρ xs as.toList ∧ LRel ρ ys bs.toList := by
 cases h with
 | fn h1 h2 h3 h4 => exact ⟨_, _, rfl, ⟨by simpa using h1, fun i v v' e e' => h3 i v v' e (by simpa using e')⟩, ⟨by simpa using h2, fun i v v' e e' => h4 i v v' e (by simpa using e')⟩⟩
theorem VRel.fn_of {ρ : Mp} {f : FuncId} {xs ys : List AVal} {as bs : Array Value} (h : LRel ρ xs as.toList) (h' : LRel ρ ys bs.toList) : VRel ρ (.fn f xs ys) (.func (.func f) as bs) :=
 .fn (by simpa using h.1) (by simpa using h'.1) (fun i v v' e e' => h.2 i v v' e (by simpa using e')) (fun i v v' e e' => h'.2 i v v' e (by simpa using e'))
theorem VRel.und (ρ : Mp) : VRel ρ und undef := VRel.tup_of (LRel.nil ρ)
theorem VRel.cells {ρ : Mp} {v : AVal} {v' : Value} (h : VRel ρ v v') : LRel ρ v.cells v'.cells.toList := by
 cases h with
 | agg h1 h2 => exact ⟨by simpa [AVal.cells, Value.cells] using h1, fun i v v' e e' => h2 i v v' e (by simpa [Value.cells] using e')⟩
 | int => exact LRel.cons (.int ..) (LRel.nil ρ)
 | bool => exact LRel.cons (.bool _) (LRel.nil ρ)
 | str h => exact LRel.cons (.str h) (LRel.nil ρ)
 | ptrN => exact LRel.cons .ptrN (LRel.nil ρ)
 | ptr h => exact LRel.cons (.ptr h) (LRel.nil ρ)
 | slN => exact LRel.cons .slN (LRel.nil ρ)
 | slX h hn => exact LRel.cons (.slX h hn) (LRel.nil ρ)
 | slO h hn hc hk => exact LRel.cons (.slO h hn hc hk) (LRel.nil ρ)
 | slE h hc => exact LRel.cons (.slE h hc) (LRel.nil ρ)
 | slU h hn => exact LRel.cons (.slU h hn) (LRel.nil ρ)
 | slF h => exact LRel.cons (.slF h) (LRel.nil ρ)
 | slG h => exact LRel.cons (.slG h) (LRel.nil ρ)
 | mapN => exact LRel.cons .mapN (LRel.nil ρ)
 | map h => exact LRel.cons (.map h) (LRel.nil ρ)
 | fn h1 h2 h3 h4 => exact LRel.cons (.fn h1 h2 h3 h4) (LRel.nil ρ)
 | nilFn => exact LRel.cons .nilFn (LRel.nil ρ)
 | iface h => exact LRel.cons (.iface h) (LRel.nil ρ)
 | nilIface => exact LRel.cons .nilIface (LRel.nil ρ)
 | mth h => exact LRel.cons (.mth h) (LRel.nil ρ)
 | tup h1 h2 => exact LRel.cons (.tup h1 h2) (LRel.nil ρ)
 | yl h => exact LRel.cons (.yl h) (LRel.nil ρ)
 | itr r => exact LRel.cons (.itr r) (LRel.nil ρ)
theorem VRel.one {ρ : Mp} {v : AVal} {v' : Value} (h : VRel ρ v v') : v'.oneCell' = v.one := by cases h <;> rfl
def Row (w : World) (L : Loc) (c : Array Value) (free : Prop) : Prop :=
 ∃ e fr, w.heap[L.blk]? = some (.cells c e fr) ∧ c.size = L.csz ∧ (free → ∀ i, i < c.size → ¬ (fr.1 ≤ i ∧ i < fr.2))
def ERel (ρ : Mp) (l : List (AVal × AVal)) (es : List MapEntry) : Prop :=
 l.length = es.length ∧ ∀ (i : Nat) (k v : AVal) (e : MapEntry), l[i]? = some (k, v) → es[i]? = some e → VRel ρ k e.key ∧ VRel ρ v e.val
theorem ERel.ext {ρ ρ' : Mp} (he : Ext ρ ρ') {l : List (AVal × AVal)} {es : List MapEntry} (h : ERel ρ l es) : ERel ρ' l es :=
 ⟨h.1, fun i k v e h1 h2 => ⟨(h.2 i k v e h1 h2).1.ext he, (h.2 i k v e h1 h2).2.ext he⟩⟩
structure MOK (ρ : Mp) (es : List (AVal × AVal)) (clock : Clk) (es' : List MapEntry) : Prop where
 keys : (es.map (·.1)).Nodup
 perm : ∃ l, l.Perm es ∧ ERel ρ l es'
 born : (es'.map (·.born)).Nodup
 young : ∀ e ∈ es', e.born < clock.n
 known : ∀ p ∈ clock.kn, ∀ e ∈ es', ∀ ρ2 : Mp, VRel ρ2 p.1 e.key → e.born = p.2
theorem MOK.ext {ρ ρ' : Mp} (he : Ext ρ ρ') {es : List (AVal × AVal)} {clock : Clk} {es' : List MapEntry} (h : MOK ρ es clock es') : MOK ρ' es clock es' := by
 obtain ⟨l, h1, h2⟩ := h.perm
 exact ⟨h.keys, ⟨l, h1, h2.ext he⟩, h.born, h.young, h.known⟩
def exCode : Ex → Code
 | .norm => .skip
 | .exit id => .exit id
 | .ret => .ret
structure LoopRel (P : Program) (ρ : Mp) (r : LoopA) (r' : Loop) : Prop where
 state : r'.state = r.state
 pend : r'.pending = r.pending.map exCode
 ps : r'.params.toList = r.ps
 tmps : LRel ρ r.tmps r'.tmps.toList
 asg : compCode P r'.assign = some r.assign
 body : compCode P r'.body = some r.body
 plain : r.assign.plain = true ∧ r.body.plain = true
theorem LoopRel.ext {P : Program} {ρ ρ' : Mp} (he : Ext ρ ρ') {r : LoopA} {r' : Loop} (h : LoopRel P ρ r r') : LoopRel P ρ' r r' :=
 ⟨h.state, h.pend, h.ps, h.tmps.ext he, h.asg, h.body, h.plain⟩
structure Rel (P : Program) (n0 : Nat) (ρ : Mp) (H : Heap) (w : World) : Prop where
 row : ∀ b L cs, ρ b = some L → H.get b = some (.cells cs) →
  ∃ c, Row w L c (n0 ≤ b) ∧ L.d + cs.length ≤ c.size ∧ LRel ρ cs ((c.toList.drop L.d).take cs.length)
 map : ∀ b L es clock, ρ b = some L → H.get b = some (.map es clock) →
  ∃ es', w.heap[L.blk]? = some (.map es' clock.n) ∧ MOK ρ es clock es'.toList
 loop : ∀ b L r, ρ b = some L → H.get b = some (.loop r) → ∃ r', w.heap[L.blk]? = some (.loop r') ∧ LoopRel P ρ r r'
 dom : ∀ b L, ρ b = some L → L.blk < w.heap.size
 excl : ∀ b b' L L', n0 ≤ b → b ≠ b' → ρ b = some L → ρ b' = some L' → (H.get b).isSome → (H.get b').isSome → H.get b ≠ some .dead → H.get b' ≠ some .dead → L.blk ≠ L'.blk
def Same (w w' : World) : Prop := w'.os = w.os ∧ w'.tape = w.tape ∧ w'.output = w.output
theorem Same.refl (w : World) : Same w w := ⟨rfl, rfl, rfl⟩
theorem Same.trans {a b c : World} (h : Same a b) (h' : Same b c) : Same a c := ⟨h'.1.trans h.1, h'.2.1.trans h.2.1, h'.2.2.trans h.2.2⟩
structure Post (P : Program) (n0 lim : Nat) (ρ : Mp) (H : Heap) (w : World) (ρ' : Mp) (H' : Heap) (w' : World) : Prop where
 rel : Rel P n0 ρ' H' w'
 ext : Ext ρ ρ'
 new : ∀ b L, ρ b = none → ρ' b = some L → H.next ≤ b ∧ b < H'.next ∧
  (w.heap.size ≤ L.blk ∨ ∃ b0 L0, lim ≤ b0 ∧ b0 < H.next ∧ ρ b0 = some L0 ∧ L0.blk = L.blk)
 frame : ∀ r, r < w.heap.size → (∀ b L, lim ≤ b → b < H.next → ρ b = some L → L.blk ≠ r) → w'.heap[r]? = w.heap[r]?
 size : w.heap.size ≤ w'.heap.size
 keep : ∀ b, b < lim → H'.get b = H.get b
 next : H.next ≤ H'.next
 rest : Same w w'
section
variable {P : Program}
theorem Post.refl {n0 lim : Nat} {ρ : Mp} {H : Heap} {w : World} (h : Rel P n0 ρ H w) : Post P n0 lim ρ H w ρ H w :=
 ⟨h, .refl ρ, fun b L e e' => by rw [e] at e'; simp at e', fun _ _ _ => rfl, Nat.le_refl _, fun _ _ => rfl, Nat.le_refl _, .refl w⟩
theorem Rel.heap_eq {n0 : Nat} {ρ : Mp} {H : Heap} {w w' : World} (h : Rel P n0 ρ H w) (hw : w'.heap = w.heap) : Rel P n0 ρ H w' :=
 ⟨fun b L cs e e' => by
   obtain ⟨c, ⟨t, fr, hr, h2, h3⟩, h4, h5⟩ := h.row b L cs e e'
   exact ⟨c, ⟨t, fr, by rw [hw]; exact hr, h2, h3⟩, h4, h5⟩,
  fun b L es cl e e' => by obtain ⟨es', h1, h2⟩ := h.map b L es cl e e'; exact ⟨es', by rw [hw]; exact h1, h2⟩,
  fun b L r e e' => by obtain ⟨r', h1, h2⟩ := h.loop b L r e e'; exact ⟨r', by rw [hw]; exact h1, h2⟩,
  fun b L e => by rw [hw]; exact h.dom b L e, h.excl⟩
theorem Post.heap_eq {n0 lim : Nat} {ρ : Mp} {H : Heap} {w w' : World} (h : Rel P n0 ρ H w) (hw : w'.heap = w.heap) (hs : Same w w') : Post P n0 lim ρ H w ρ H w' :=
 ⟨h.heap_eq hw, .refl ρ, fun b L e e' => by rw [e] at e'; simp at e', fun r _ _ => by rw [hw], by rw [hw]; exact Nat.le_refl _, fun _ _ => rfl, Nat.le_refl _, hs⟩
theorem Post.trans {n0 lim lim' : Nat} {ρ ρ₁ ρ₂ : Mp} {H H₁ H₂ : Heap} {w w₁ w₂ : World} (hl : lim ≤ lim') (hf : ∀ b, H.next ≤ b → b < H₂.next → ρ b = none)
  (h : Post P n0 lim ρ H w ρ₁ H₁ w₁) (h' : Post P n0 lim' ρ₁ H₁ w₁ ρ₂ H₂ w₂) : Post P n0 lim ρ H w ρ₂ H₂ w₂ := by
 have old : ∀ b0 L0, lim' ≤ b0 → b0 < H₁.next → ρ₁ b0 = some L0 → (w.heap.size ≤ L0.blk ∨ ∃ b1 L1, lim ≤ b1 ∧ b1 < H.next ∧ ρ b1 = some L1 ∧ L1.blk = L0.blk) := by
  intro b0 L0 g1 g2 g3
  cases hb : ρ b0 with
  | none => exact (h.new b0 L0 hb g3).2.2
  | some L1 =>
   rcases Nat.lt_or_ge b0 H.next with g | g
   ·have := h.ext b0 L1 hb
    rw [g3] at this; simp at this; subst this
    exact .inr ⟨b0, L0, by omega, g, hb, rfl⟩
   ·rw [hf b0 g (Nat.lt_of_lt_of_le g2 h'.next)] at hb; simp at hb
 refine ⟨h'.rel, h.ext.trans h'.ext, ?_, ?_, Nat.le_trans h.size h'.size, ?_, Nat.le_trans h.next h'.next, h.rest.trans h'.rest⟩
 ·intro b L e e'
  cases hb : ρ₁ b with
  | some L1 =>
   have := h'.ext b L1 hb
   rw [e'] at this; simp at this; subst this
   obtain ⟨g1, g2, g3⟩ := h.new b L e hb
   exact ⟨g1, Nat.lt_of_lt_of_le g2 h'.next, g3⟩
  | none =>
   obtain ⟨g1, g2, g3⟩ := h'.new b L hb e'
   refine ⟨Nat.le_trans h.next g1, g2, ?_⟩
   rcases g3 with g3 | ⟨b0, L0, q1, q2, q3, q4⟩
   ·exact .inl (Nat.le_trans h.size g3)
   ·rw [← q4]; exact old b0 L0 q1 q2 q3
 ·intro r hr hn
  rw [h'.frame r (Nat.lt_of_lt_of_le hr h.size) ?_, h.frame r hr hn]
  intro b L g1 g2 g3
  rcases old b L g1 g2 g3 with q | ⟨b1, L1, q1, q2, q3, q4⟩
  ·omega
  ·rw [← q4]; exact hn b1 L1 q1 q2 q3
 ·intro b hb
  rw [h'.keep b (Nat.lt_of_lt_of_le hb hl), h.keep b hb]
end
end Go.Ahs
