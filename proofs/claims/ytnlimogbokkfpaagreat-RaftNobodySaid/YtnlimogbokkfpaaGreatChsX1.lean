/- Maps by what they hold: keys and values, in whatever row. -/
import Derived.Test.YtnlimogbokkfpaaGreatChsW3
set_option linter.unusedSimpArgs false
set_option linter.unusedVariables false
namespace Go.Ahs
structure KeyK (K : Type) [DecidableEq K] where
 agg : Bool
 ls : List Leaf
 enc : K → AVal
 eq : ∀ a b, keyEq agg ls (enc a) (enc b) = some (decide (a = b))
def strK : KeyK (List UInt8) where
 agg := false
 ls := [.str]
 enc := .str
 eq := fun a b => by
  simp only [keyEq, keyCells, Bool.false_eq_true, if_false, cellsEq, leafEq, Bool.and_true]
  congr 1
  by_cases h : a = b <;> simp [h]
def lk {K α : Type} [DecidableEq K] (fs : List (K × α)) (k : K) : Option α := (fs.find? fun x => decide (x.1 = k)).map (·.2)
theorem nodup_one {K α : Type} {fs : List (K × α)} (h : (fs.map (·.1)).Nodup) {k : K} {a b : α} (ha : (k, a) ∈ fs) (hb : (k, b) ∈ fs) : a = b := by
 induction fs with
 | nil => simp at ha
 | cons x fs ih =>
  rw [List.map_cons, List.nodup_cons] at h
  rcases List.mem_cons.1 ha with ha | ha <;> rcases List.mem_cons.1 hb with hb | hb
  ·rw [← ha] at hb; simp at hb; exact hb.symm
  ·exfalso; apply h.1; rw [← ha]; exact List.mem_map.2 ⟨_, hb, rfl⟩
  ·exfalso; apply h.1; rw [← hb]; exact List.mem_map.2 ⟨_, ha, rfl⟩
  ·exact ih h.2 ha hb
theorem perm_of {K : Type} {l l' : List K} (h : l.Nodup) (h' : l'.Nodup) (hm : ∀ x, x ∈ l ↔ x ∈ l') : l.Perm l' := (List.perm_ext_iff_of_nodup h h').2 hm
theorem mem_keys {K α : Type} {fs : List (K × α)} {k : K} : k ∈ fs.map (·.1) ↔ ∃ a, (k, a) ∈ fs := by
 rw [List.mem_map]
 constructor
 ·rintro ⟨⟨k', a⟩, h, rfl⟩; exact ⟨a, h⟩
 ·rintro ⟨a, h⟩; exact ⟨_, h, rfl⟩
section
variable {K : Type} [DecidableEq K] {α : Type}
theorem lk_none {fs : List (K × α)} {k : K} : lk fs k = none ↔ k ∉ fs.map (·.1) := by
 unfold lk
 simp only [Option.map_eq_none_iff, List.find?_eq_none, decide_eq_true_eq, List.mem_map, not_exists, not_and]
theorem lk_mem {fs : List (K × α)} {k : K} {a : α} (h : lk fs k = some a) : (k, a) ∈ fs := by
 unfold lk at h
 rw [Option.map_eq_some_iff] at h
 obtain ⟨⟨k', a'⟩, h1, rfl⟩ := h
 have := List.find?_some h1
 simp at this
 subst this
 exact List.mem_of_find?_eq_some h1
theorem lk_of_mem {fs : List (K × α)} (h : (fs.map (·.1)).Nodup) {k : K} {a : α} (ha : (k, a) ∈ fs) : lk fs k = some a := by
 cases hl : lk fs k with
 | none => exact absurd (List.mem_map.2 ⟨_, ha, rfl⟩) (lk_none.1 hl)
 | some b => rw [nodup_one h ha (lk_mem hl)]
def encE (kk : KeyK K) (vs : List (K × AVal)) : List (AVal × AVal) := vs.map fun x => (kk.enc x.1, x.2)
variable {kk : KeyK K}
theorem isKey_enc (k : K) (x : K × AVal) : isKey kk.agg kk.ls (kk.enc k) (kk.enc x.1, x.2) = decide (k = x.1) := by
 unfold isKey
 rw [kk.eq]
 by_cases h : k = x.1 <;> simp [h]
theorem keyOK_enc (k : K) (vs : List (K × AVal)) : keyOK kk.agg kk.ls (kk.enc k) (encE kk vs) = true := by
 unfold keyOK encE
 rw [kk.eq]
 simp [kk.eq]
theorem mget_enc (k : K) (vs : List (K × AVal)) : mget kk.agg kk.ls (kk.enc k) (encE kk vs) = lk vs k := by
 unfold mget encE lk
 induction vs with
 | nil => rfl
 | cons x vs ih =>
  rw [List.map_cons, List.find?_cons, List.find?_cons, isKey_enc]
  by_cases h : k = x.1
  ·simp [h]
  ·have h' : ¬ x.1 = k := fun e => h e.symm
   simp only [decide_eq_false h, decide_eq_false h']
   exact ih
theorem any_enc (k : K) (vs : List (K × AVal)) : (encE kk vs).any (isKey kk.agg kk.ls (kk.enc k)) = decide (k ∈ vs.map (·.1)) := by
 unfold encE
 rw [List.any_map]
 have : ((isKey kk.agg kk.ls (kk.enc k)) ∘ fun x : K × AVal => (kk.enc x.1, x.2)) = fun x => decide (k = x.1) := by
  funext x; exact isKey_enc k x
 rw [this]
 by_cases h : k ∈ vs.map (·.1)
 ·simp only [h, decide_true]
  rw [List.any_eq_true]
  obtain ⟨x, h1, h2⟩ := List.mem_map.1 h
  exact ⟨x, h1, by simp [h2]⟩
 ·simp only [h, decide_false]
  rw [List.any_eq_false]
  intro x hx
  simp only [decide_eq_true_eq]
  intro e; apply h; rw [e]; exact List.mem_map.2 ⟨x, hx, rfl⟩
def vput (k : K) (v : AVal) (vs : List (K × AVal)) : List (K × AVal) := if k ∈ vs.map (·.1) then vs.map fun x => if x.1 = k then (k, v) else x else vs ++ [(k, v)]
def vdel (k : K) (vs : List (K × AVal)) : List (K × AVal) := vs.filter fun x => !decide (x.1 = k)
theorem mput_enc (k : K) (v : AVal) (vs : List (K × AVal)) : mput kk.agg kk.ls (kk.enc k) v (encE kk vs) = encE kk (vput k v vs) := by
 unfold mput
 rw [any_enc]
 unfold vput
 by_cases h : k ∈ vs.map (·.1)
 ·simp only [h, decide_true, if_true]
  unfold encE
  rw [List.map_map, List.map_map]
  apply List.map_congr_left
  intro x hx
  simp only [Function.comp, isKey_enc, decide_eq_true_eq]
  by_cases e : x.1 = k
  ·rw [if_pos e.symm, if_pos e]
  ·rw [if_neg (fun q => e q.symm), if_neg e]
 ·simp only [h, decide_false, Bool.false_eq_true, if_false]
  unfold encE; simp
theorem mdel_enc (k : K) (vs : List (K × AVal)) : mdel kk.agg kk.ls (kk.enc k) (encE kk vs) = encE kk (vdel k vs) := by
 unfold mdel vdel encE
 rw [List.filter_map]
 congr 1
 apply List.filter_congr
 intro x _
 simp only [Function.comp, isKey_enc]
 by_cases h : k = x.1
 ·simp [h]
 ·have h' : ¬ x.1 = k := fun e => h e.symm
  simp [h, h']
theorem vput_keys_in {k : K} {v : AVal} {vs : List (K × AVal)} (h : k ∈ vs.map (·.1)) : (vput k v vs).map (·.1) = vs.map (·.1) := by
 unfold vput
 rw [if_pos h, List.map_map]
 apply List.map_congr_left
 intro x _
 simp only [Function.comp]
 split
 ·rename_i e; exact e.symm
 ·rfl
theorem vput_keys_out {k : K} {v : AVal} {vs : List (K × AVal)} (h : k ∉ vs.map (·.1)) : (vput k v vs).map (·.1) = vs.map (·.1) ++ [k] := by
 unfold vput
 rw [if_neg h]; simp
theorem vput_mem {k k' : K} {v v' : AVal} {vs : List (K × AVal)} (h : (k', v') ∈ vput k v vs) : (k' = k ∧ v' = v) ∨ (k' ≠ k ∧ (k', v') ∈ vs) := by
 unfold vput at h
 split at h
 ·obtain ⟨x, h1, h2⟩ := List.mem_map.1 h
  split at h2
  ·simp at h2; exact .inl ⟨h2.1.symm, h2.2.symm⟩
  ·rename_i hne
   subst h2; exact .inr ⟨hne, h1⟩
 ·rename_i hn
  rcases List.mem_append.1 h with h | h
  ·refine .inr ⟨fun e => hn ?_, h⟩
   rw [← e]; exact List.mem_map.2 ⟨_, h, rfl⟩
  ·simp at h; exact .inl h
structure MapAt (kk : KeyK K) (H : Heap) (m : Nat) (R : AVal → α → Prop) (fs : List (K × α)) : Prop where
 ex : ∃ vs clk, H.get m = some (.map (encE kk vs) clk) ∧ (vs.map (·.1)).Perm (fs.map (·.1)) ∧ ∀ k v a, (k, v) ∈ vs → (k, a) ∈ fs → R v a
 nodup : (fs.map (·.1)).Nodup
structure PutF (fs : List (K × α)) (k : K) (a : α) (fs' : List (K × α)) : Prop where
 nodup : (fs'.map (·.1)).Nodup
 mem : ∀ k' a', (k', a') ∈ fs' ↔ (k' = k ∧ a' = a) ∨ (k' ≠ k ∧ (k', a') ∈ fs)
structure DelF (fs : List (K × α)) (k : K) (fs' : List (K × α)) : Prop where
 nodup : (fs'.map (·.1)).Nodup
 mem : ∀ k' a', (k', a') ∈ fs' ↔ (k' ≠ k ∧ (k', a') ∈ fs)
variable {H : Heap} {m : Nat} {R : AVal → α → Prop} {fs : List (K × α)}
theorem MapAt.mono {R' : AVal → α → Prop} {H' : Heap} (h : MapAt kk H m R fs) (hg : H'.get m = H.get m) (hR : ∀ k v a, (k, a) ∈ fs → R v a → R' v a) : MapAt kk H' m R' fs := by
 obtain ⟨vs, clk, h1, h2, h3⟩ := h.ex
 exact ⟨⟨vs, clk, by rw [hg]; exact h1, h2, fun k v a hv ha => hR k v a ha (h3 k v a hv ha)⟩, h.nodup⟩
theorem MapAt.lt (h : MapAt kk H m R fs) : m < H.next := by
 obtain ⟨vs, clk, h1, _⟩ := h.ex
 exact Heap.get_lt h1
theorem MapAt.lookup_some (h : MapAt kk H m R fs) {k : K} {a : α} (hl : lk fs k = some a) (z : AVal) :
  ∃ v, R v a ∧ ∀ ok, alookup H kk.agg kk.ls z ok (.map (some m)) (kk.enc k) = some (if ok = true then .tup [v, .bool true] else v) := by
 obtain ⟨vs, clk, h1, h2, h3⟩ := h.ex
 have ha := lk_mem hl
 have hk : k ∈ vs.map (·.1) := h2.mem_iff.2 (mem_keys.2 ⟨a, ha⟩)
 have hn : (vs.map (·.1)).Nodup := h2.nodup_iff.2 h.nodup
 obtain ⟨v, hv⟩ := mem_keys.1 hk
 refine ⟨v, h3 k v a hv ha, fun ok => ?_⟩
 unfold alookup mapEs
 simp only [h1, keyOK_enc, if_true, mget_enc, lk_of_mem hn hv]
theorem MapAt.lookup_none (h : MapAt kk H m R fs) {k : K} (hl : lk fs k = none) (z : AVal) :
  ∀ ok, alookup H kk.agg kk.ls z ok (.map (some m)) (kk.enc k) = some (if ok = true then .tup [z, .bool false] else z) := by
 obtain ⟨vs, clk, h1, h2, h3⟩ := h.ex
 have hk : k ∉ vs.map (·.1) := fun e => lk_none.1 hl (h2.mem_iff.1 e)
 intro ok
 unfold alookup mapEs
 simp only [h1, keyOK_enc, if_true, mget_enc, lk_none.2 hk]
theorem MapAt.len (h : MapAt kk H m R fs) : amapLen H (.map (some m)) = some (.int .i64 (fs.length : Nat)) := by
 obtain ⟨vs, clk, h1, h2, h3⟩ := h.ex
 unfold amapLen mapEs
 have : (encE kk vs).length = fs.length := by
  have := h2.length_eq
  simpa [encE] using this
 simp only [h1, Option.map_some, this]
theorem MapAt.update (h : MapAt kk H m R fs) {lim : Nat} (hlim : lim ≤ m) (k : K) {v : AVal} {a : α} (hv : R v a) :
  ∃ x, amapUpdate lim H kk.agg kk.ls (.map (some m)) (kk.enc k) v = some (H.set m x) ∧ ∀ fs', PutF fs k a fs' → MapAt kk (H.set m x) m R fs' := by
 obtain ⟨vs, clk, h1, h2, h3⟩ := h.ex
 have hm := h.lt
 refine ⟨.map (encE kk (vput k v vs)) (clk.put kk.agg kk.ls (kk.enc k) ((encE kk vs).any (isKey kk.agg kk.ls (kk.enc k)))), ?_, fun fs' hp => ⟨⟨vput k v vs, _, Heap.get_set_same _ _ _ hm, ?_, ?_⟩, hp.nodup⟩⟩
 ·unfold amapUpdate
  simp only [h1, keyOK_enc, and_true, hlim, if_true, mput_enc]
 ·have hn : (vs.map (·.1)).Nodup := h2.nodup_iff.2 h.nodup
  have hn' : ((vput k v vs).map (·.1)).Nodup := by
   by_cases hk : k ∈ vs.map (·.1)
   ·rw [vput_keys_in hk]; exact hn
   ·rw [vput_keys_out hk]
    rw [List.nodup_append]
    exact ⟨hn, by simp, fun x hx y hy e => by simp at hy; subst hy; subst e; exact hk hx⟩
  refine perm_of hn' hp.nodup fun x => ?_
  have e1 : x ∈ (vput k v vs).map (·.1) ↔ x = k ∨ x ∈ vs.map (·.1) := by
   by_cases hk : k ∈ vs.map (·.1)
   ·rw [vput_keys_in hk]
    constructor
    ·exact .inr
    ·rintro (rfl | h)
     ·exact hk
     ·exact h
   ·rw [vput_keys_out hk]; simp [or_comm]
  rw [e1, h2.mem_iff, mem_keys, mem_keys]
  constructor
  ·rintro (rfl | ⟨a', h'⟩)
   ·exact ⟨a, (hp.mem _ _).2 (.inl ⟨rfl, rfl⟩)⟩
   ·by_cases e : x = k
    ·exact ⟨a, (hp.mem _ _).2 (.inl ⟨e, rfl⟩)⟩
    ·exact ⟨a', (hp.mem _ _).2 (.inr ⟨e, h'⟩)⟩
  ·rintro ⟨a', h'⟩
   rcases (hp.mem _ _).1 h' with ⟨e, _⟩ | ⟨_, h'⟩
   ·exact .inl e
   ·exact .inr ⟨a', h'⟩
 ·intro k' v' a' hv' ha'
  rcases vput_mem hv' with ⟨rfl, rfl⟩ | ⟨hne, hv''⟩
  ·rcases (hp.mem _ _).1 ha' with ⟨_, rfl⟩ | ⟨hne, _⟩
   ·exact hv
   ·exact absurd rfl hne
  ·rcases (hp.mem _ _).1 ha' with ⟨e, _⟩ | ⟨_, ha''⟩
   ·exact absurd e hne
   ·exact h3 k' v' a' hv'' ha''
theorem MapAt.delete (h : MapAt kk H m R fs) {lim : Nat} (hlim : lim ≤ m) (k : K) :
  ∃ x, amapDelete lim H kk.agg kk.ls (.map (some m)) (kk.enc k) = some (H.set m x) ∧ ∀ fs', DelF fs k fs' → MapAt kk (H.set m x) m R fs' := by
 obtain ⟨vs, clk, h1, h2, h3⟩ := h.ex
 have hm := h.lt
 refine ⟨.map (encE kk (vdel k vs)) clk, ?_, fun fs' hp => ⟨⟨vdel k vs, _, Heap.get_set_same _ _ _ hm, ?_, ?_⟩, hp.nodup⟩⟩
 ·unfold amapDelete
  simp only [h1, keyOK_enc, and_true, hlim, if_true, mdel_enc]
 ·have hn : (vs.map (·.1)).Nodup := h2.nodup_iff.2 h.nodup
  have hn' : ((vdel k vs).map (·.1)).Nodup := hn.sublist (List.Sublist.map _ List.filter_sublist)
  refine perm_of hn' hp.nodup fun x => ?_
  have e1 : x ∈ (vdel k vs).map (·.1) ↔ x ≠ k ∧ x ∈ vs.map (·.1) := by
   unfold vdel
   rw [mem_keys, mem_keys]
   constructor
   ·rintro ⟨a', h'⟩
    rw [List.mem_filter] at h'
    exact ⟨by simpa using h'.2, a', h'.1⟩
   ·rintro ⟨hne, a', h'⟩
    exact ⟨a', List.mem_filter.2 ⟨h', by simpa using hne⟩⟩
  rw [e1, h2.mem_iff, mem_keys, mem_keys]
  constructor
  ·rintro ⟨hne, a', h'⟩; exact ⟨a', (hp.mem _ _).2 ⟨hne, h'⟩⟩
  ·rintro ⟨a', h'⟩
   obtain ⟨hne, h''⟩ := (hp.mem _ _).1 h'
   exact ⟨hne, a', h''⟩
 ·intro k' v' a' hv' ha'
  unfold vdel at hv'
  exact h3 k' v' a' (List.mem_filter.1 hv').1 ((hp.mem _ _).1 ha').2
theorem MapAt.new (R : AVal → α → Prop) : MapAt kk (H.push (.map [] ⟨0, []⟩)) H.next R ([] : List (K × α)) :=
 ⟨⟨[], ⟨0, []⟩, Heap.get_push_new _ _, .refl _, fun _ _ _ h => by simp at h⟩, by simp⟩
end
end Go.Ahs
