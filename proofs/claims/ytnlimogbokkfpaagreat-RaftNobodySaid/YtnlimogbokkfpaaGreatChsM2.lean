/- The operations on maps. -/
import Derived.Test.YtnlimogbokkfpaaGreatChsM1
import Derived.RangeFuncRecord
set_option linter.unusedSimpArgs false
set_option linter.unusedVariables false
namespace Go.Ahs
theorem nodup_fst {es : List (AVal × AVal)} (h : (es.map (·.1)).Nodup) {k v v' : AVal} (h1 : (k, v) ∈ es) (h2 : (k, v') ∈ es) : v = v' := by
 induction es with
 | nil => simp at h1
 | cons e es ih =>
  rw [List.map_cons, List.nodup_cons] at h
  rcases List.mem_cons.1 h1 with e1 | e1
  ·rcases List.mem_cons.1 h2 with e2 | e2
   ·rw [← e1] at e2; exact (by simpa using e2.symm)
   ·exact absurd (List.mem_map.2 ⟨_, e2, by rw [← e1]⟩) h.1
  ·rcases List.mem_cons.1 h2 with e2 | e2
   ·exact absurd (List.mem_map.2 ⟨_, e1, by rw [← e2]⟩) h.1
   ·exact ih h.2 e1 e2
section
variable {P : Program} {n0 lim : Nat} {ρ : Mp} {H H' : Heap} {w : World} {v : AVal}
theorem isKey_eq {g : Bool} {ls : List Leaf} {k : AVal} {e : AVal × AVal} (h : isKey g ls k e = true) : k = e.1 := by
 unfold isKey at h
 rw [beq_iff_eq] at h
 exact (keyEq_true h).1 rfl
theorem isKey_ne {g : Bool} {ls : List Leaf} {k : AVal} {e : AVal × AVal} (h : (keyEq g ls k e.1).isSome = true) (hn : isKey g ls k e = false) : k ≠ e.1 := by
 obtain ⟨r, hr⟩ := Option.isSome_iff_exists.1 h
 unfold isKey at hn
 rw [hr] at hn
 cases r with
 | true => simp at hn
 | false => exact fun e => by have := (keyEq_true hr).2 e; simp at this
theorem keyOK_inv {g : Bool} {ls : List Leaf} {k : AVal} {es : List (AVal × AVal)} (h : keyOK g ls k es = true) : keyEq g ls k k = some true ∧ ∀ e ∈ es, (keyEq g ls k e.1).isSome = true := by
 unfold keyOK at h
 rw [Bool.and_eq_true, beq_iff_eq, List.all_eq_true] at h
 exact h
theorem find_perm {g : Bool} {ls : List Leaf} {k : AVal} {es l : List (AVal × AVal)} (hn : (es.map (·.1)).Nodup) (hp : l.Perm es) (hok : ∀ e ∈ es, (keyEq g ls k e.1).isSome = true) :
  (findAt g ls k l = none ∧ mget g ls k es = none ∧ es.any (isKey g ls k) = false ∧ ∀ e ∈ es, isKey g ls k e = false) ∨
  ∃ j v, findAt g ls k l = some j ∧ l[j]? = some (k, v) ∧ mget g ls k es = some v ∧ es.any (isKey g ls k) = true ∧ ∀ i e, l[i]? = some e → i ≠ j → isKey g ls k e = false := by
 have hnl : (l.map (·.1)).Nodup := (hp.map _).nodup_iff.2 hn
 cases hf : findAt g ls k l with
 | none =>
  unfold findAt at hf
  rw [List.findIdx?_eq_none_iff] at hf
  have all : ∀ e ∈ es, isKey g ls k e = false := fun e he => by have := hf e (hp.mem_iff.2 he); simpa using this
  refine .inl ⟨rfl, ?_, ?_, all⟩
  ·unfold mget
   rw [List.find?_eq_none.2 (fun e he => by rw [all e he]; simp)]; rfl
  ·rw [List.any_eq_false]
   intro e he; rw [all e he]; simp
 | some j =>
  unfold findAt at hf
  rw [List.findIdx?_eq_some_iff_getElem] at hf
  obtain ⟨hj, hk, _⟩ := hf
  have ek := isKey_eq hk
  have hlj : l[j]? = some (k, l[j].2) := by rw [List.getElem?_eq_getElem hj, ek]
  have hmem : (k, l[j].2) ∈ es := hp.mem_iff.1 (List.mem_of_getElem? hlj)
  refine .inr ⟨j, l[j].2, rfl, hlj, ?_, ?_, ?_⟩
  ·unfold mget
   cases hq : es.find? (isKey g ls k) with
   | none =>
    rw [List.find?_eq_none] at hq
    exact absurd hk (hq _ (hp.mem_iff.1 (List.getElem_mem hj)))
   | some e =>
    have h1 := List.find?_some hq
    have h2 := List.mem_of_find?_eq_some hq
    have e1 := isKey_eq h1
    rw [Option.map_some]
    congr 1
    refine nodup_fst hn (k := k) ?_ hmem
    rw [e1]; exact h2
  ·rw [List.any_eq_true]
   exact ⟨_, hp.mem_iff.1 (List.getElem_mem hj), hk⟩
  ·intro i e hi hne
   cases hb : isKey g ls k e with
   | false => rfl
   | true =>
    exfalso
    have e1 := isKey_eq hb
    have hil : i < l.length := by
     rcases Nat.lt_or_ge i l.length with h | h
     ·exact h
     ·rw [List.getElem?_eq_none h] at hi; simp at hi
    have hei : l[i] = e := by rw [List.getElem?_eq_getElem hil] at hi; simpa using hi
    have hp' := List.pairwise_iff_getElem.1 hnl
    have e3 : (l.map (·.1))[i]'(by simpa using hil) = (l.map (·.1))[j]'(by simpa using hj) := by
     rw [List.getElem_map, List.getElem_map, hei, ← e1, ← ek]
    rcases Nat.lt_or_gt_of_ne hne with h | h
    ·exact hp' i j (by simpa using hil) (by simpa using hj) h e3
    ·exact hp' j i (by simpa using hj) (by simpa using hil) h e3.symm
theorem ERel.get {l : List (AVal × AVal)} {es : List MapEntry} (h : ERel ρ l es) {j : Nat} {k v : AVal} (hj : l[j]? = some (k, v)) : ∃ e, es[j]? = some e ∧ VRel ρ k e.key ∧ VRel ρ v e.val := by
 have hl : j < l.length := by
  rcases Nat.lt_or_ge j l.length with h | h
  ·exact h
  ·rw [List.getElem?_eq_none h] at hj; simp at hj
 have hl' : j < es.length := h.1 ▸ hl
 exact ⟨es[j], List.getElem?_eq_getElem hl', h.2 j k v _ hj (List.getElem?_eq_getElem hl')⟩
theorem mapEs_rel (hr : Rel P n0 ρ H w) {m : AVal} {m' : Value} (hm : VRel ρ m m') {es : List (AVal × AVal)} (h : mapEs H m = some es) :
  (m = .map none ∧ m' = .map none ∧ es = []) ∨ ∃ b L clock es', m = .map (some b) ∧ m' = .map (some L.blk) ∧ ρ b = some L ∧ H.get b = some (.map es clock) ∧ w.heap[L.blk]? = some (.map es' clock.n) ∧ MOK ρ es clock es'.toList := by
 unfold mapEs at h
 split at h
 ·cases hm; simp at h; exact .inl ⟨rfl, rfl, h⟩
 ·rename_i b
  split at h <;> simp at h
  rename_i es0 clock hg
  subst h
  cases hm with | map hρ =>
  rename_i L
  obtain ⟨es', q1, q2⟩ := hr.map b L _ clock hρ hg
  exact .inr ⟨b, L, clock, es', rfl, rfl, hρ, hg, q1, q2⟩
 ·simp at h
theorem zeroA_inv (ρ : Mp) {t : TypeId} {z : AVal} (h : zeroA P t = some z) : ∃ i v, P.info? t = some i ∧ i.zero = some v ∧ VRel ρ z v := by
 unfold zeroA at h
 split at h
 ·rename_i i hi
  split at h
  ·rename_i v hv
   exact ⟨i, v, hi, hv, cval_rel ρ h⟩
  ·simp at h
 ·simp at h
theorem lookup_sim (hr : Rel P n0 ρ H w) {t kt e : TypeId} (ht : P.underlying t = some (.map kt e)) {g : Bool} {ls : List Leaf} (hk : keyT P kt = some (g, ls)) {z : AVal} (hz : zeroA P e = some z) {ok : Bool} {m k : AVal} {m' k' : Value}
  (hm : VRel ρ m m') (hkk : VRel ρ k k') (h : alookup H g ls z ok m k = some v) : Sim1 P n0 lim ρ H w (Instr.lookup t m' k' ok) v H := by
 unfold alookup at h
 split at h
 case h_2 => simp at h
 rename_i es hes
 split at h
 case isFalse => simp at h
 rename_i hok
 obtain ⟨ok1, ok2⟩ := keyOK_inv hok
 obtain ⟨i, zv, hi, hzv, hzr⟩ := zeroA_inv ρ hz
 rcases mapEs_rel hr hm hes with ⟨rfl, rfl, rfl⟩ | ⟨b, L, clock, es', rfl, rfl, hρ, hg, hw, hmok⟩
 ·have hf := findKey_sim hk hkk w (l := []) (es := []) (fun e he => by simp at he) ⟨rfl, fun i k v e h => by simp at h⟩
  have hck := key_check hk ok1 hkk true w
  simp [mget] at h
  subst h
  refine .same hr (v' := if ok = true then .tuple #[zv, .bool false] else zv) ?_ ?_
  ·have hf' : (Instr.findKey kt k' []).run P w = .ok none w := by simpa [findAt] using hf
   have e1 : (#[] : Array MapEntry).isEmpty = true := rfl
   have e2 : (#[] : Array MapEntry).toList = [] := rfl
   simp only [Instr.lookup, Sem.run_bind, run_und ht, Result.andThen_ok, Sem.run_pure, e1, e2, hck, hf', run_zeroValue' hi hzv]
  ·cases ok
   ·exact hzr
   ·exact VRel.tup_of (LRel.cons hzr (LRel.cons (.bool false) (LRel.nil ρ)))
 ·obtain ⟨l, hp, hrel⟩ := hmok.perm
  have hf := findKey_sim hk hkk w (fun e he => ok2 e (hp.mem_iff.1 he)) hrel
  have hck := key_check hk ok1 hkk es'.isEmpty w
  rcases find_perm hmok.keys hp ok2 with ⟨f1, f2, _, _⟩ | ⟨j, vj, f1, f2, f3, _, _⟩
  ·rw [f2] at h
   rw [f1] at hf
   simp at h
   subst h
   refine .same hr (v' := if ok = true then .tuple #[zv, .bool false] else zv) ?_ ?_
   ·simp only [Instr.lookup, Sem.run_bind, run_und ht, Result.andThen_ok, Go.MapKept.run_getObj_map hw, Sem.run_pure, hck, hf, Option.bind_none, run_zeroValue' hi hzv]
   ·cases ok
    ·exact hzr
    ·exact VRel.tup_of (LRel.cons hzr (LRel.cons (.bool false) (LRel.nil ρ)))
  ·rw [f3] at h
   obtain ⟨ej, g1, g2, g3⟩ := hrel.get f2
   rw [f1, Option.bind_some, g1, Option.map_some] at hf
   simp at h
   subst h
   refine .same hr (v' := if ok = true then .tuple #[ej.val, .bool true] else ej.val) ?_ ?_
   ·simp only [Instr.lookup, Sem.run_bind, run_und ht, Result.andThen_ok, Go.MapKept.run_getObj_map hw, Sem.run_pure, hck, hf]
   ·cases ok
    ·exact g3
    ·exact VRel.tup_of (LRel.cons g3 (LRel.cons (.bool true) (LRel.nil ρ)))
theorem run_setObj' {r : Nat} {o : Obj} {es : Array MapEntry} {clock : Nat} (h : w.heap[r]? = some (.map es clock)) : (setObj r o).run P w = .ok () (w.putObj r o) := by
 rw [Go.MapKept.run_setObj_map o h]; rfl
theorem mput_keys {g : Bool} {ls : List Leaf} {k v : AVal} {es : List (AVal × AVal)} : (es.map fun e => if isKey g ls k e = true then (k, v) else e).map (·.1) = es.map (·.1) := by
 rw [List.map_map]
 refine List.map_congr_left fun e he => ?_
 simp only [Function.comp]
 split
 ·rename_i h; exact isKey_eq h
 ·rfl
theorem Rel.turnMap (hr : Rel P n0 ρ H w) (hl : n0 ≤ lim) {b : Nat} (hlb : lim ≤ b) {L : Loc} {es : List (AVal × AVal)} {clock : Clk} (hρ : ρ b = some L) (hg : H.get b = some (.map es clock)) (hlt : L.blk < w.heap.size) (es2 : List (AVal × AVal)) (clock2 : Clk) (es2' : Array MapEntry) (hm2 : MOK ρ es2 clock2 es2'.toList) :
  Post P n0 lim ρ H w ρ (H.set b (.map es2 clock2)) (w.putObj L.blk (.map es2' clock2.n)) := by
 refine hr.turn hl hlb hρ hg (by simp) (by simp) (fun r _ hne => World.putObj_heap_other hne) ⟨fun _ h => by simp at h, fun es3 c3 h => ?_, fun _ h => by simp at h⟩ ⟨rfl, rfl, rfl⟩
 simp at h
 obtain ⟨rfl, rfl⟩ := h
 exact ⟨es2', World.putObj_heap_same hlt, hm2⟩
theorem leaf_back {ρ2 : Mp} {l : Leaf} {x y : AVal} (h : leafEq l x x = some true) {a : Value} (hx : VRel ρ x a) (hy : VRel ρ2 y a) : y = x := by
 rcases leafEq_inv h with ⟨k, c, d, rfl, rfl, _, _⟩ | ⟨c, d, rfl, rfl, _, _⟩ | ⟨c, d, rfl, rfl, _, _⟩
 ·cases hx; cases hy; rfl
 ·cases hx; cases hy; rfl
 ·cases hx with | str h1 => cases hy with | str h2 =>
  rw [← h1, ← h2]
theorem cells_back {ρ ρ2 : Mp} : ∀ {ls : List Leaf} {xs ys : List AVal} {as : List Value}, cellsEq ls xs xs = some true → LRel ρ xs as → LRel ρ2 ys as → ys = xs
 | [], [], [], [], _, _, _ => rfl
 | [], [], _ :: _, [], _, _, h => by have := h.1; simp at this
 | [], [], _, _ :: _, _, h, _ => by have := h.1; simp at this
 | l :: ls, x :: xs, _, [], h, h1, _ => by have := h1.1; simp at this
 | l :: ls, x :: xs, [], a :: as, h, _, h1 => by have := h1.1; simp at this
 | l :: ls, x :: xs, y :: ys, a :: as, h, h1, h2 => by
  unfold cellsEq at h
  split at h
  ·rename_i p q hp hq
   simp at h
   obtain ⟨rfl, rfl⟩ := h
   rw [leaf_back hp h1.head h2.head, cells_back hq h1.tail h2.tail]
  ·simp at h
 | [], _ :: _, _, _, h, _, _ => by simp [cellsEq] at h
 | _ :: _, [], _, _, h, _, _ => by simp [cellsEq] at h
theorem key_back {ρ2 : Mp} {g : Bool} {ls : List Leaf} {x y : AVal} (h : keyEq g ls x x = some true) {a : Value} (hx : VRel ρ x a) (hy : VRel ρ2 y a) : y = x := by
 obtain ⟨xs, ys, h1, h2, h3⟩ := keyEq_inv h
 rw [h1] at h2; simp at h2; subst h2
 cases g with
 | true =>
  cases x <;> simp [keyCells] at h1
  subst h1
  obtain ⟨as, rfl, l1⟩ := hx.agg_inv
  cases hy with
  | agg e1 e2 =>
   rename_i cs
   have l2 : LRel ρ2 cs as.toList := ⟨by simpa using e1, fun i v v' q q' => e2 i v v' q (by simpa using q')⟩
   rw [cells_back h3 l1 l2]
 | false =>
  have hxs : xs = [x] := by cases x <;> simp [keyCells] at h1 <;> exact h1.symm
  subst hxs
  match ls, h3 with
  | [l], h3 =>
   unfold cellsEq at h3
   split at h3
   ·rename_i p q hp hq
    simp at h3
    obtain ⟨rfl, rfl⟩ := h3
    exact leaf_back hp hx hy
   ·simp at h3
  | [], h3 => simp [cellsEq] at h3
  | _ :: _ :: _, h3 =>
   have := cellsEq_length h3
   simp at this
theorem MOK.more {g : Bool} {ls : List Leaf} {k x : AVal} {k' x' : Value} {es l : List (AVal × AVal)} {clock : Clk} {r : List MapEntry} (hmok : MOK ρ es clock r) (hp : l.Perm es) (hrel : ERel ρ l r) (ok1 : keyEq g ls k k = some true) (ok2 : ∀ e ∈ es, (keyEq g ls k e.1).isSome = true)
  (f3 : es.any (isKey g ls k) = false) (f4 : ∀ e ∈ es, isKey g ls k e = false) (hkk : VRel ρ k k') (hx : VRel ρ x x') : MOK ρ (mput g ls k x es) (clock.put g ls k false) (r ++ [{ key := k', val := x', born := clock.n }]) := by
 have hn : (clock.put g ls k false).n = clock.n + 1 := rfl
 unfold mput
 rw [f3]
 simp only [Bool.false_eq_true, if_false]
 refine ⟨?_, ⟨l ++ [(k, x)], hp.append_right _, ?_, ?_⟩, ?_, ?_, ?_⟩
 ·rw [List.map_append, List.nodup_append]
  refine ⟨hmok.keys, by simp, ?_⟩
  intro a ha c hc
  simp at hc
  subst hc
  obtain ⟨e, he, rfl⟩ := List.mem_map.1 ha
  exact fun e2 => isKey_ne (ok2 e he) (f4 e he) e2.symm
 ·simp [hrel.1]
 ·intro i k1 v1 e1 h1 h2
  rw [List.getElem?_append] at h1 h2
  rw [← hrel.1] at h2
  split at h1
  ·rename_i hi; rw [if_pos hi] at h2; exact hrel.2 i k1 v1 e1 h1 h2
  ·rename_i hi
   rw [if_neg hi] at h2
   have : i - l.length = 0 := by
    rcases Nat.eq_zero_or_pos (i - l.length) with h | h
    ·exact h
    ·rw [List.getElem?_eq_none (by simp; omega)] at h1; simp at h1
   rw [this] at h1 h2
   simp at h1 h2
   obtain ⟨rfl, rfl⟩ := h1
   subst h2
   exact ⟨hkk, hx⟩
 ·rw [List.map_append, List.nodup_append]
  refine ⟨hmok.born, by simp, ?_⟩
  intro a ha c hc
  simp at hc
  subst hc
  obtain ⟨e, he, rfl⟩ := List.mem_map.1 ha
  have := hmok.young e he
  omega
 ·intro e he
  rw [hn]
  rcases List.mem_append.1 he with he | he
  ·have := hmok.young e he; omega
  ·simp at he; subst he; simp
 ·intro p hp2 e he ρ2 hv
  have hkn : p = (k, clock.n) ∨ (p ∈ clock.kn ∧ keyEq g ls k p.1 = some false) := by
   simp only [Clk.put, Bool.false_eq_true, if_false, List.mem_cons, List.mem_filter, beq_iff_eq] at hp2
   exact hp2
  rcases hkn with rfl | ⟨hp2, hne⟩
  ·rcases List.mem_append.1 he with he | he
   ·exfalso
    obtain ⟨i, hi, rfl⟩ := List.getElem_of_mem he
    have hil : i < l.length := by rw [hrel.1]; exact hi
    have := hrel.2 i l[i].1 l[i].2 r[i] (by rw [List.getElem?_eq_getElem hil]) (by rw [List.getElem?_eq_getElem hi])
    have e1 : l[i].1 = k := key_back ok1 hv this.1
    have hm := hp.mem_iff.1 (List.getElem_mem hil)
    have := f4 _ hm
    unfold isKey at this
    rw [e1, ok1] at this
    simp at this
   ·simp at he; subst he; rfl
  ·rcases List.mem_append.1 he with he | he
   ·exact hmok.known p hp2 e he ρ2 hv
   ·exfalso
    simp at he; subst he
    have e1 : p.1 = k := key_back ok1 hkk hv
    rw [e1, ok1] at hne
    simp at hne
theorem MOK.over {g : Bool} {ls : List Leaf} {k x vj : AVal} {k' x' : Value} {es l : List (AVal × AVal)} {clock : Clk} {r : List MapEntry} {j : Nat} {ej : MapEntry} (hmok : MOK ρ es clock r) (hp : l.Perm es) (hrel : ERel ρ l r) (ok1 : keyEq g ls k k = some true)
  (f2 : l[j]? = some (k, vj)) (f4 : es.any (isKey g ls k) = true) (f5 : ∀ i e, l[i]? = some e → i ≠ j → isKey g ls k e = false) (g1 : r[j]? = some ej) (g2 : VRel ρ k ej.key) (hkk : VRel ρ k k') (hx : VRel ρ x x') : MOK ρ (mput g ls k x es) clock (r.modify j fun e => { e with key := k', val := x' }) := by
 unfold mput
 rw [f4]
 simp only [if_true]
 have hborn : (r.modify j fun e => { e with key := k', val := x' }).map (·.born) = r.map (·.born) := by
  apply List.ext_getElem?
  intro i
  rw [List.getElem?_map, List.getElem?_map, List.getElem?_modify]
  split
  ·cases r[i]? <;> rfl
  ·simp
 refine ⟨by rw [mput_keys]; exact hmok.keys, ⟨l.map fun e => if isKey g ls k e = true then (k, x) else e, hp.map _, ?_, ?_⟩, by rw [hborn]; exact hmok.born, ?_, ?_⟩
 ·rw [List.length_map, List.length_modify]; exact hrel.1
 ·intro i k1 v1 e1 h1 h2
  rw [List.getElem?_map] at h1
  rw [List.getElem?_modify] at h2
  by_cases hij : j = i
  ·subst hij
   rw [f2] at h1
   rw [g1] at h2
   have hkey : isKey g ls k (k, vj) = true := by simp [isKey, ok1]
   simp [hkey] at h1 h2
   obtain ⟨rfl, rfl⟩ := h1
   subst h2
   exact ⟨hkk, hx⟩
  ·simp [hij] at h2
   cases hli : l[i]? with
   | none => rw [hli] at h1; simp at h1
   | some e2 =>
    have := f5 i e2 hli (Ne.symm hij)
    rw [hli] at h1
    simp [this] at h1
    subst h1
    exact hrel.2 i k1 v1 e1 hli (by simpa using h2)
 ·intro e he
  have : e.born ∈ (r.modify j fun e => { e with key := k', val := x' }).map (·.born) := List.mem_map.2 ⟨e, he, rfl⟩
  rw [hborn] at this
  obtain ⟨e2, he2, hb⟩ := List.mem_map.1 this
  rw [← hb]; exact hmok.young e2 he2
 ·intro p hp2 e he ρ2 hv
  obtain ⟨i, hi⟩ := List.getElem?_of_mem he
  rw [List.getElem?_modify] at hi
  by_cases hij : j = i
  ·subst hij
   rw [g1] at hi
   simp at hi
   subst hi
   have e1 : p.1 = k := key_back ok1 hkk hv
   exact hmok.known p hp2 ej (List.mem_of_getElem? g1) ρ (by rw [e1]; exact g2)
  ·simp [hij] at hi
   exact hmok.known p hp2 e (List.mem_of_getElem? hi) ρ2 hv
theorem mapUpdate_sim (hr : Rel P n0 ρ H w) (hl : n0 ≤ lim) {t kt e : TypeId} (ht : P.underlying t = some (.map kt e)) {g : Bool} {ls : List Leaf} (hk : keyT P kt = some (g, ls)) {m k x : AVal} {m' k' x' : Value}
  (hm : VRel ρ m m') (hkk : VRel ρ k k') (hx : VRel ρ x x') (h : amapUpdate lim H g ls m k x = some H') : ∃ w', (Instr.mapUpdate t m' k' x').run P w = .ok () w' ∧ Post P n0 lim ρ H w ρ H' w' := by
 unfold amapUpdate at h
 split at h
 case h_2 => simp at h
 rename_i b
 split at h
 case h_2 => simp at h
 rename_i es clock hg
 split at h
 case isFalse => simp at h
 rename_i hc
 obtain ⟨hlb, hok⟩ := hc
 simp at h
 obtain ⟨ok1, ok2⟩ := keyOK_inv hok
 cases hm with | map hρ =>
 rename_i L
 obtain ⟨es', hw, hmok⟩ := hr.map b L es clock hρ hg
 obtain ⟨l, hp, hrel⟩ := hmok.perm
 have hf := findKey_sim hk hkk w (fun e he => ok2 e (hp.mem_iff.1 he)) hrel
 have hck := key_check hk ok1 hkk false w
 have hlt := (Array.getElem?_eq_some_iff.1 hw).1
 have turned := hr.turnMap hl hlb hρ hg hlt
 rcases find_perm hmok.keys hp ok2 with ⟨f1, f2, f3, f4⟩ | ⟨j, vj, f1, f2, f3, f4, f5⟩
 ·rw [f1] at hf
  rw [f3] at h
  subst h
  refine ⟨w.putObj L.blk (.map (es'.push { key := k', val := x', born := clock.n }) (clock.n + 1)), ?_, turned _ (clock.put g ls k false) _ ?_⟩
  ·simp only [Instr.mapUpdate, Sem.run_bind, run_und ht, Result.andThen_ok, Go.MapKept.run_getObj_map hw, hck, hf, Option.bind_none]
   exact run_setObj' hw
  ·rw [Array.toList_push]
   exact hmok.more hp hrel ok1 ok2 f3 f4 hkk hx
 ·obtain ⟨ej, g1, g2, g3⟩ := hrel.get f2
  rw [f1, Option.bind_some, g1, Option.map_some] at hf
  rw [f4] at h
  subst h
  obtain ⟨q1, q2⟩ := key_fun ok1 hkk g2
  have g1' : es'[j]? = some ej := by simpa using g1
  refine ⟨w.putObj L.blk (.map (es'.modify j fun e => { e with key := k', val := x' }) clock.n), ?_, turned _ clock _ ?_⟩
  ·simp only [Instr.mapUpdate, Sem.run_bind, run_und ht, Result.andThen_ok, Go.MapKept.run_getObj_map hw, hck, hf, g1', Option.map_some, Option.getD_some, Instr.keyThatStays, ← q1, q2, if_true, Sem.run_pure]
   exact run_setObj' hw
  ·rw [Array.toList_modify]
   exact hmok.over hp hrel ok1 f2 f4 f5 g1 g2 hkk hx
theorem mapPlace_sim (hr : Rel P n0 ρ H w) (hl : n0 ≤ lim) {t kt e : TypeId} (ht : P.underlying t = some (.map kt e)) {g : Bool} {ls : List Leaf} (hk : keyT P kt = some (g, ls)) {z : AVal} (hz : zeroA P e = some z) {m k : AVal} {m' k' : Value}
  (hm : VRel ρ m m') (hkk : VRel ρ k k') (h : amapEntry lim H g ls z m k = some (v, H')) : Sim1 P n0 lim ρ H w (Instr.mapEntry t m' k') v H' := by
 unfold amapEntry at h
 split at h
 case h_2 => simp at h
 rename_i b
 split at h
 case h_2 => simp at h
 rename_i es clock hg
 split at h
 case isFalse => simp at h
 rename_i hc
 obtain ⟨hlb, hok⟩ := hc
 obtain ⟨ok1, ok2⟩ := keyOK_inv hok
 obtain ⟨i, zv, hi, hzv, hzr⟩ := zeroA_inv ρ hz
 cases hm with | map hρ =>
 rename_i L
 obtain ⟨es', hw, hmok⟩ := hr.map b L es clock hρ hg
 obtain ⟨l, hp, hrel⟩ := hmok.perm
 have hf := findKey_sim hk hkk w (fun e he => ok2 e (hp.mem_iff.1 he)) hrel
 have hck := key_check hk ok1 hkk false w
 have hlt := (Array.getElem?_eq_some_iff.1 hw).1
 have turned := hr.turnMap hl hlb hρ hg hlt
 rcases find_perm hmok.keys hp ok2 with ⟨f1, f2, f3, f4⟩ | ⟨j, vj, f1, f2, f3, f4, f5⟩
 ·rw [f1] at hf
  rw [f2] at h
  simp only [Option.some.injEq, Prod.mk.injEq] at h
  obtain ⟨rfl, rfl⟩ := h
  refine ⟨.tuple #[zv, goInt clock.n], w.putObj L.blk (.map (es'.push { key := k', val := zv, born := clock.n }) (clock.n + 1)), ρ, ?_, turned _ (clock.put g ls k false) _ ?_, VRel.tup_of (LRel.cons hzr (LRel.cons (.int _ _) (LRel.nil ρ)))⟩
  ·simp only [Instr.mapEntry, Sem.run_bind, run_und ht, Result.andThen_ok, Go.MapKept.run_getObj_map hw, hck, hf, Option.bind_none, run_zeroValue' hi hzv, run_setObj' hw, Sem.run_pure]
  ·rw [Array.toList_push]
   exact hmok.more hp hrel ok1 ok2 f3 f4 hkk hzr
 ·obtain ⟨ej, g1, g2, g3⟩ := hrel.get f2
  rw [f1, Option.bind_some, g1, Option.map_some] at hf
  rw [f3] at h
  simp only at h
  split at h
  case h_2 => simp at h
  rename_i p hp2
  simp only [Option.some.injEq, Prod.mk.injEq] at h
  obtain ⟨rfl, rfl⟩ := h
  obtain ⟨q1, q2⟩ := key_fun ok1 hkk g2
  have g1' : es'[j]? = some ej := by simpa using g1
  have hpk : p.1 = k := by
   have := List.find?_some hp2
   simp only [beq_iff_eq] at this
   exact ((keyEq_true this).1 rfl).symm
  have hborn : ej.born = p.2 := hmok.known p (List.mem_of_find?_eq_some hp2) ej (List.mem_of_getElem? g1) ρ (by rw [hpk]; exact g2)
  refine ⟨.tuple #[ej.val, goInt ej.born], w.putObj L.blk (.map (es'.modify j fun e => { e with key := k' }) clock.n), ρ, ?_, turned _ clock _ ?_, ?_⟩
  ·simp only [Instr.mapEntry, Sem.run_bind, run_und ht, Result.andThen_ok, Go.MapKept.run_getObj_map hw, hck, hf, g1', Option.map_some, Option.getD_some, Instr.keyThatStays, ← q1, q2, if_true, Sem.run_pure, run_setObj' hw]
  ·rw [Array.toList_modify]
   have hm2 := hmok.over (x := vj) (x' := ej.val) hp hrel ok1 f2 f4 f5 g1 g2 hkk g3
   have : (es'.toList.modify j fun e => { e with key := k', val := ej.val }) = es'.toList.modify j fun e => { e with key := k' } := by
    apply List.ext_getElem?
    intro i
    rw [List.getElem?_modify, List.getElem?_modify]
    by_cases hij : j = i
    ·subst hij; rw [g1]; simp
    ·simp [hij]
   rw [← this]; exact hm2
  ·rw [hborn]
   exact VRel.tup_of (LRel.cons g3 (LRel.cons (.int _ _) (LRel.nil ρ)))
theorem placeStore_sim (hr : Rel P n0 ρ H w) (hl : n0 ≤ lim) {t : TypeId} {g : Bool} {ls : List Leaf} {m s x : AVal} {m' s' x' : Value}
  (hm : VRel ρ m m') (hs : VRel ρ s s') (hx : VRel ρ x x') (h : aentryStore lim H g ls m s x = some H') : ∃ w', (Instr.entryStore t m' s' x').run P w = .ok () w' ∧ Post P n0 lim ρ H w ρ H' w' := by
 unfold aentryStore at h
 split at h
 case h_2 => simp at h
 rename_i b n
 split at h
 case h_2 => simp at h
 rename_i es clock hg
 split at h
 case h_2 => simp at h
 rename_i p hp2
 split at h
 case isFalse => simp at h
 rename_i hc
 obtain ⟨hlb, hok, hany⟩ := hc
 simp at h
 obtain ⟨ok1, ok2⟩ := keyOK_inv hok
 cases hm with | map hρ =>
 cases hs with | int =>
 rename_i L
 obtain ⟨es', hw, hmok⟩ := hr.map b L es clock hρ hg
 obtain ⟨l, hp, hrel⟩ := hmok.perm
 have hlt := (Array.getElem?_eq_some_iff.1 hw).1
 have turned := hr.turnMap hl hlb hρ hg hlt
 rcases find_perm hmok.keys hp ok2 with ⟨f1, f2, f3, f4⟩ | ⟨j, vj, f1, f2, f3, f4, f5⟩
 ·rw [f3] at hany; simp at hany
 ·obtain ⟨ej, g1, g2, g3⟩ := hrel.get f2
  have g1' : es'[j]? = some ej := by simpa using g1
  have hpn : (p.2 : Int) = n := by simpa using List.find?_some hp2
  have hborn : ej.born = p.2 := hmok.known p (List.mem_of_find?_eq_some hp2) ej (List.mem_of_getElem? g1) ρ g2
  have hj : j < es'.toList.length := by
   rcases Nat.lt_or_ge j es'.toList.length with h | h
   ·exact h
   ·rw [List.getElem?_eq_none h] at g1; simp at g1
  have hfind : es'.findIdx? (fun e => (e.born : Int) == n) = some j := by
   have hjs : j < es'.size := by simpa using hj
   rw [Array.findIdx?_eq_some_iff_getElem]
   have hej : es'[j] = ej := by rw [Array.getElem?_eq_getElem hjs] at g1'; simpa using g1'
   refine ⟨hjs, by rw [hej, hborn, hpn]; simp, fun i hi => ?_⟩
   simp only [Bool.not_eq_true, beq_eq_false_iff_ne, ne_eq]
   intro he
   have hb := List.pairwise_iff_getElem.1 hmok.born i j (by simp; omega) (by simpa using hj) hi
   rw [List.getElem_map, List.getElem_map, Array.getElem_toList, Array.getElem_toList, hej, hborn] at hb
   exact hb (by omega)
  subst h
  refine ⟨w.putObj L.blk (.map (es'.modify j fun e => { e with val := x' }) clock.n), ?_, turned _ clock _ ?_⟩
  ·simp only [Instr.entryStore, Sem.run_bind, Result.andThen_ok, Go.MapKept.run_getObj_map hw, asInt, asIntOf, Sem.run_pure, hfind]
   exact run_setObj' hw
  ·rw [Array.toList_modify]
   have hm2 := hmok.over (x := x) (x' := x') (k' := ej.key) hp hrel ok1 f2 f4 f5 g1 g2 g2 hx
   have : (es'.toList.modify j fun e => { e with key := ej.key, val := x' }) = es'.toList.modify j fun e => { e with val := x' } := by
    apply List.ext_getElem?
    intro i
    rw [List.getElem?_modify, List.getElem?_modify]
    by_cases hij : j = i
    ·subst hij; rw [g1]; simp
    ·simp [hij]
   rw [← this]; exact hm2
theorem filter_erase {α : Type} (p : α → Bool) : ∀ (l : List α) (j : Nat) (x : α), l[j]? = some x → p x = false → (∀ i y, l[i]? = some y → i ≠ j → p y = true) → l.filter p = l.eraseIdx j
 | [], j, x, h, _, _ => by simp at h
 | y :: l, 0, x, h, hx, ho => by
  simp at h; subst h
  rw [List.filter_cons_of_neg (by simp [hx]), List.eraseIdx_cons_zero]
  exact List.filter_eq_self.2 fun z hz => by
   obtain ⟨i, hi, rfl⟩ := List.getElem_of_mem hz
   exact ho (i + 1) l[i] (by simp [hi]) (by omega)
 | y :: l, j + 1, x, h, hx, ho => by
  rw [List.filter_cons_of_pos (ho 0 y rfl (by omega)), List.eraseIdx_cons_succ]
  congr 1
  exact filter_erase p l j x (by simpa using h) hx fun i z hz hne => ho (i + 1) z (by simpa using hz) (by omega)
theorem MOK.del {g : Bool} {ls : List Leaf} {k : AVal} {es : List (AVal × AVal)} {clock : Clk} {es' l : List (AVal × AVal)} {r : List MapEntry} (h : MOK ρ es clock r) (hp : l.Perm es) (hrel : ERel ρ l r) {j : Nat} {vj : AVal} (hok : keyEq g ls k k = some true)
  (f2 : l[j]? = some (k, vj)) (f5 : ∀ i e, l[i]? = some e → i ≠ j → isKey g ls k e = false) : MOK ρ (mdel g ls k es) clock (r.eraseIdx j) := by
 have hkey : isKey g ls k (k, vj) = true := by simp [isKey, hok]
 have hle : l.filter (fun e => !isKey g ls k e) = l.eraseIdx j := filter_erase _ l j (k, vj) f2 (by simp [hkey]) fun i e hi hne => by simp [f5 i e hi hne]
 have hsub : (r.eraseIdx j).Sublist r := List.eraseIdx_sublist _ _
 refine ⟨?_, ⟨l.eraseIdx j, ?_, ?_, ?_⟩, (hsub.map _).nodup h.born, fun e he => h.young e (hsub.subset he), fun p hp e he => h.known p hp e (hsub.subset he)⟩
 ·unfold mdel
  exact ((List.filter_sublist (l := es)).map _).nodup h.keys
 ·rw [← hle]
  exact hp.filter _
 ·have hj : j < l.length := by
   rcases Nat.lt_or_ge j l.length with h | h
   ·exact h
   ·rw [List.getElem?_eq_none h] at f2; simp at f2
  rw [List.length_eraseIdx, List.length_eraseIdx, ← hrel.1]
 ·intro i k1 v1 e1 h1 h2
  rw [List.getElem?_eraseIdx] at h1 h2
  split at h1
  ·rename_i hi; rw [if_pos hi] at h2; exact hrel.2 i k1 v1 e1 h1 h2
  ·rename_i hi; rw [if_neg hi] at h2; exact hrel.2 (i + 1) k1 v1 e1 h1 h2
theorem mapDelete_sim (hr : Rel P n0 ρ H w) (hl : n0 ≤ lim) {t kt e ty : TypeId} {argTypes : Array TypeId} (h0 : argTypes[0]? = some t) (ht : P.underlying t = some (.map kt e)) {g : Bool} {ls : List Leaf} (hk : keyT P kt = some (g, ls)) {m k : AVal} {m' k' : Value}
  (hm : VRel ρ m m') (hkk : VRel ρ k k') (h : amapDelete lim H g ls m k = some H') : Sim1 P n0 lim ρ H w (Builtin.delete_ argTypes ty #[m', k']) und H' := by
 unfold amapDelete at h
 split at h
 case h_3 => simp at h
 ·split at h
  case isFalse => simp at h
  rename_i ok1
  simp at h
  subst h
  cases hm
  refine .same hr (v' := .tuple #[]) ?_ (VRel.und ρ)
  simp only [Builtin.delete_, h0, List.getElem?_toArray, List.getElem?_cons_zero, List.getElem?_cons_succ, Sem.run_bind, run_und ht, Result.andThen_ok, key_check hk ok1 hkk true w, Sem.run_pure]
 rename_i b
 split at h
 case h_2 => simp at h
 rename_i es clock hg
 split at h
 case isFalse => simp at h
 rename_i hc
 obtain ⟨hlb, hok⟩ := hc
 simp at h
 obtain ⟨ok1, ok2⟩ := keyOK_inv hok
 cases hm with | map hρ =>
 rename_i L
 obtain ⟨es', hw, hmok⟩ := hr.map b L es clock hρ hg
 obtain ⟨l, hp, hrel⟩ := hmok.perm
 have hf := findKey_sim hk hkk w (fun e he => ok2 e (hp.mem_iff.1 he)) hrel
 have hck := key_check hk ok1 hkk es'.isEmpty w
 have hlt := (Array.getElem?_eq_some_iff.1 hw).1
 have turned : ∀ (es2 : List (AVal × AVal)) (clock2 : Clk) (es2' : Array MapEntry), MOK ρ es2 clock2 es2'.toList →
   Post P n0 lim ρ H w ρ (H.set b (.map es2 clock2)) (w.putObj L.blk (.map es2' clock2.n)) := by
  intro es2 clock2 es2' hm2
  refine hr.turn hl hlb hρ hg (by simp) (by simp) (fun r _ hne => World.putObj_heap_other hne) ⟨fun _ h => by simp at h, fun es3 c3 h => ?_, fun _ h => by simp at h⟩ ⟨rfl, rfl, rfl⟩
  simp at h
  obtain ⟨rfl, rfl⟩ := h
  exact ⟨es2', World.putObj_heap_same hlt, hm2⟩
 subst h
 rcases find_perm hmok.keys hp ok2 with ⟨f1, f2, f3, f4⟩ | ⟨j, vj, f1, f2, f3, f4, f5⟩
 ·rw [f1] at hf
  have hd : mdel g ls k es = es := by
   unfold mdel
   exact List.filter_eq_self.2 fun e he => by rw [f4 e he]; rfl
  rw [hd]
  refine ⟨.tuple #[], w.putObj L.blk (.map es' clock.n), ρ, ?_, turned _ _ _ hmok, VRel.und ρ⟩
  simp only [Builtin.delete_, h0, List.getElem?_toArray, List.getElem?_cons_zero, List.getElem?_cons_succ, Sem.run_bind, run_und ht, Result.andThen_ok, Go.MapKept.run_getObj_map hw, hck, hf, Option.bind_none, run_setObj' hw, Sem.run_pure]
 ·obtain ⟨ej, g1, g2, g3⟩ := hrel.get f2
  rw [f1, Option.bind_some, g1, Option.map_some] at hf
  have hj : j < es'.size := by
   rcases Nat.lt_or_ge j es'.size with h | h
   ·exact h
   ·rw [List.getElem?_eq_none (by simpa using h)] at g1; simp at g1
  have he : (es'.eraseIdxIfInBounds j).toList = es'.toList.eraseIdx j := by simp [Array.eraseIdxIfInBounds, hj]
  refine ⟨.tuple #[], w.putObj L.blk (.map (es'.eraseIdxIfInBounds j) clock.n), ρ, ?_, turned _ _ _ ?_, VRel.und ρ⟩
  ·simp only [Builtin.delete_, h0, List.getElem?_toArray, List.getElem?_cons_zero, List.getElem?_cons_succ, Sem.run_bind, run_und ht, Result.andThen_ok, Go.MapKept.run_getObj_map hw, hck, hf, run_setObj' hw, Sem.run_pure]
  ·rw [he]
   exact MOK.del (es' := []) hmok hp hrel ok1 f2 f5
theorem makeMap_sim (hr : Rel P n0 ρ H w) (hlim : lim ≤ H.next) (hf : ρ H.next = none) {t kt e : TypeId} (ht : P.underlying t = some (.map kt e)) {hint : Option AVal} {hint' : Option Value}
  (hh : match hint, hint' with | none, none => True | some x, some x' => VRel ρ x x' | _, _ => False) (h : hintOK hint = true) : Sim1 P n0 lim ρ H w (Instr.makeMap t hint') (.map (some H.next)) (H.push (.map [] ⟨0, []⟩)) := by
 have grown : Post P n0 lim ρ H w (upd ρ H.next ⟨w.heap.size, 0, 0⟩) (H.push (.map [] ⟨0, []⟩)) (w.alloc (.map #[] 0)) := by
  have hsz : (w.alloc (.map #[] 0)).heap.size = w.heap.size + 1 := World.size_alloc _ _
  refine hr.grow hlim hf ⟨w.heap.size, 0, 0⟩ _ (Nat.le_refl _) (by rw [hsz]; exact Nat.lt_succ_self _) (fun r hr' => ?_) ⟨fun _ h => by simp at h, fun es c h => ?_, fun _ h => by simp at h⟩ ⟨rfl, rfl, rfl⟩
  ·show (w.heap.push _)[r]? = _
   rw [Array.getElem?_push, if_neg (by omega)]
  ·simp at h
   obtain ⟨rfl, rfl⟩ := h
   exact ⟨#[], World.alloc_heap_new w _, ⟨by simp, ⟨[], .refl _, rfl, fun i k v e h => by simp at h⟩, by simp, fun e h => by simp at h, fun p _ e h => by simp at h⟩⟩
 refine ⟨.map (some w.heap.size), _, _, ?_, grown, .map (L := ⟨w.heap.size, 0, 0⟩) (upd_same _ _ _)⟩
 cases hint with
 | none =>
  cases hint' with
  | none => simp [Instr.makeMap]
  | some x' => exact hh.elim
 | some x =>
  cases hint' with
  | none => exact hh.elim
  | some x' =>
   cases x <;> simp [hintOK] at h
   cases hh
   simp [Instr.makeMap, run_und ht, asInt, asIntOf]
theorem mapLen_sim (hr : Rel P n0 ρ H w) {t kt e ty : TypeId} {argTypes : Array TypeId} (h0 : argTypes[0]? = some t) (ht : P.underlying t = some (.map kt e)) {m : AVal} {m' : Value} (hm : VRel ρ m m') (h : amapLen H m = some v) :
  Sim1 P n0 lim ρ H w (Builtin.len_ argTypes ty #[m']) v H := by
 unfold amapLen at h
 rw [Option.map_eq_some_iff] at h
 obtain ⟨es, hes, rfl⟩ := h
 rcases mapEs_rel hr hm hes with ⟨rfl, rfl, rfl⟩ | ⟨b, L, clock, es', rfl, rfl, hρ, hg, hw, hmok⟩
 ·exact .same hr (v' := goInt 0) (by simp only [Builtin.len_, h0, List.getElem?_toArray, List.getElem?_cons_zero, Sem.run_bind, run_und ht, Result.andThen_ok, Sem.run_pure]) (.int _ _)
 ·refine .same hr (v' := goInt es'.size) (by simp only [Builtin.len_, h0, List.getElem?_toArray, List.getElem?_cons_zero, Sem.run_bind, run_und ht, Result.andThen_ok, Go.MapKept.run_getObj_map hw, Sem.run_pure]) ?_
  obtain ⟨l, hp, hrel⟩ := hmok.perm
  have : es.length = es'.size := by
   rw [← hp.length_eq, hrel.1]; simp
  rw [this]; exact .int _ _
theorem mapClear_sim (hr : Rel P n0 ρ H w) (hl : n0 ≤ lim) {t kt e ty : TypeId} {argTypes : Array TypeId} (h0 : argTypes[0]? = some t) (ht : P.underlying t = some (.map kt e)) {m : AVal} {m' : Value} (hm : VRel ρ m m') (h : amapClear lim H m = some H') :
  Sim1 P n0 lim ρ H w (Builtin.clear_ argTypes ty #[m']) und H' := by
 unfold amapClear at h
 split at h
 case h_3 => simp at h
 ·simp at h; subst h
  cases hm
  exact .same hr (v' := .tuple #[]) (by simp only [Builtin.clear_, h0, List.getElem?_toArray, List.getElem?_cons_zero, Sem.run_bind, run_und ht, Result.andThen_ok, Sem.run_pure]) (VRel.und ρ)
 rename_i b
 split at h
 case h_2 => simp at h
 rename_i es clock hg
 split at h
 case isFalse => simp at h
 rename_i hlb
 simp at h; subst h
 cases hm with | map hρ =>
 rename_i L
 obtain ⟨es', hw, hmok⟩ := hr.map b L es clock hρ hg
 have hlt := (Array.getElem?_eq_some_iff.1 hw).1
 refine ⟨.tuple #[], w.putObj L.blk (.map #[] clock.n), ρ, ?_, ?_, VRel.und ρ⟩
 ·simp only [Builtin.clear_, h0, List.getElem?_toArray, List.getElem?_cons_zero, Sem.run_bind, run_und ht, Result.andThen_ok, Go.MapKept.run_getObj_map hw, run_setObj' hw, Sem.run_pure]
 ·refine hr.turn hl hlb hρ hg (by simp) (by simp) (fun r _ hne => World.putObj_heap_other hne) ⟨fun _ h => by simp at h, fun es3 c3 h => ?_, fun _ h => by simp at h⟩ ⟨rfl, rfl, rfl⟩
  simp at h
  obtain ⟨rfl, rfl⟩ := h
  exact ⟨#[], World.putObj_heap_same hlt, ⟨by simp, ⟨[], .refl _, rfl, fun i k v e h => by simp at h⟩, by simp, fun e h => by simp at h, fun p _ e h => by simp at h⟩⟩
theorem clearSl_sim (hr : Rel P n0 ρ H w) (hl : n0 ≤ lim) {t e ty : TypeId} {argTypes : Array TypeId} (h0 : argTypes[0]? = some t) (ht : P.underlying t = some (.slice e)) {zl : List AVal} (hz : zeroT P e = some zl) (hpos : 0 < zl.length)
  {x : AVal} {x' : Value} (hx : VRel ρ x x') (h : aclear lim H zl x = some H') : Sim1 P n0 lim ρ H w (Builtin.clear_ argTypes ty #[x']) und H' := by
 obtain ⟨i, z, hi, hzv, hzl, hzc, hzr, hz1⟩ := zeroT_inv ρ hz
 have none' : ∀ (a : Option (Nat × Nat)) (n : Nat) (c : Cap), x = .sl a n c → n = 0 → H' = H → Sim1 P n0 lim ρ H w (Builtin.clear_ argTypes ty #[x']) und H' := by
  rintro a n c rfl rfl rfl
  obtain ⟨a', cp, rfl, _⟩ := slice_all hx
  refine .same hr (v' := .tuple #[]) ?_ (VRel.und ρ)
  cases a' <;> simp only [Builtin.clear_, h0, List.getElem?_toArray, List.getElem?_cons_zero, Sem.run_bind, run_und ht, Result.andThen_ok, Sem.run_pure]
 unfold aclear at h
 split at h
 case h_3 => simp at h
 ·split at h <;> simp at h
  rename_i n c hn
  exact none' _ _ _ rfl hn h.symm
 rename_i b o n c
 split at h
 ·rename_i hn
  simp at h
  exact none' _ _ _ rfl hn h.symm
 rename_i hn
 split at h
 case h_2 => simp at h
 rename_i cs hc
 split at h
 case isFalse => simp at h
 rename_i hcond
 simp at h; subst h
 obtain ⟨a', cp, rfl, _⟩ := slice_all hx
 have : ∃ L, ρ b = some L ∧ a' = some ⟨L.blk, L.d + o, none⟩ := by
  cases hx <;> first | exact ⟨_, by assumption, rfl⟩ | exact absurd rfl hn
 obtain ⟨L, hb, rfl⟩ := this
 have hzs : 0 < z.cells.size := by omega
 have hrel : LRel ρ (rep n zl) (Builtin.zeroCells z.cells n).toList := by
  rw [zeroCells_eq _ _ hzs]; exact rep_rel hzr n
 have hlen : (rep n zl).length = n * zl.length := by simp [rep]
 have h1 : (rep n zl).all (·.one) = true := by
  rw [List.all_eq_true]
  intro y hy
  unfold rep at hy
  obtain ⟨q, hq, hy⟩ := List.mem_flatten.1 hy
  rw [List.mem_replicate] at hq
  rw [hq.2] at hy
  exact hz1 y hy
 obtain ⟨w', r1, r2⟩ := write_sim (P := P) (o := o) hr hl hcond.1 hb hc hrel h1 (by rw [hlen]; exact hcond.2.1)
 refine ⟨.tuple #[], w', ρ, ?_, r2, VRel.und ρ⟩
 have hn' : ∃ m, n = m + 1 := ⟨n - 1, by omega⟩
 obtain ⟨m, rfl⟩ := hn'
 simp only [Builtin.clear_, h0, List.getElem?_toArray, List.getElem?_cons_zero, Sem.run_bind, run_und ht, Result.andThen_ok, run_zeroValue' hi hzv, r1, Sem.run_pure]
end
end Go.Ahs
