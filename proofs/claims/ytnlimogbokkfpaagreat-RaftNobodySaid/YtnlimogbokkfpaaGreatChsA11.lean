/- The table of operations, whole. -/
import Derived.Test.YtnlimogbokkfpaaGreatChsA10
set_option linter.unusedSimpArgs false
set_option linter.unusedVariables false
namespace Go.Ahs
section
variable {P : Program} {n0 lim : Nat} {ρ : Mp} {H H' : Heap} {w : World} {R : Caller} {ev : Opd → AVal} {ev' : Operand → Value} {v : AVal}
theorem allSome_map_rel (he : EvRel ρ ev ev') {xs : List Operand} {ys : List Opd} (h : allSome copd xs = some ys) : LRel ρ (ys.map ev) (xs.map ev') := by
 refine ⟨by simp [allSome_length h], fun i v v' e e' => ?_⟩
 rw [List.getElem?_map, Option.map_eq_some_iff] at e e'
 obtain ⟨y, hy, rfl⟩ := e
 obtain ⟨x, hx, rfl⟩ := e'
 obtain ⟨y', h1, h2⟩ := allSome_get h i x hx
 rw [hy] at h1; simp at h1; subst h1
 exact he _ _ h2
theorem mmFold_sim {isMax : Bool} {k : IntKind} : ∀ (xs : List AVal) (as : List Value) (a : Int) (v : AVal), mmFold isMax k a xs = some v → LRel ρ xs as →
  ∃ v', (as.foldlM (if isMax then Builtin.max2 else Builtin.min2) (.int k a)).run P w = .ok v' w ∧ VRel ρ v v'
 | [], as, a, v, h, hr => by
  simp [mmFold] at h; subst h
  have : as = [] := List.eq_nil_of_length_eq_zero hr.1.symm
  subst this
  exact ⟨_, rfl, .int _ _⟩
 | x :: xs, as, a, v, h, hr => by
  match as with
  | [] => have := hr.1; simp at this
  | b :: as =>
   have hx := hr.head
   unfold mmFold at h
   split at h
   ·rename_i heq; simp at heq
   ·rename_i a1 k' b' rest heq
    simp at heq
    obtain ⟨rfl, rfl⟩ := heq
    split at h
    ·rename_i hk
     subst hk
     cases hx
     obtain ⟨v', q1, q2⟩ := mmFold_sim _ _ _ _ h hr.tail
     refine ⟨v', ?_, q2⟩
     rw [List.foldlM_cons]
     cases isMax <;> simpa [Builtin.max2, Builtin.min2] using q1
    ·simp at h
   ·simp at h
theorem minmax_sim (hr : Rel P n0 ρ H w) {isMax : Bool} {xs : List AVal} {as : Array Value} (hx : LRel ρ xs as.toList) (h : aminmax isMax xs = some v) (ts : Array TypeId) (t : TypeId) :
  Sim1 P n0 lim ρ H w (if isMax then Builtin.max_ ts t as else Builtin.min_ ts t as) v H := by
 unfold aminmax at h
 split at h
 ·rename_i k a rest
  obtain ⟨l⟩ := as
  cases l with
  | nil => have := hx.1; simp at this
  | cons b bs =>
   have h1 := LRel.head hx
   cases h1
   obtain ⟨v', q1, q2⟩ := mmFold_sim (P := P) (w := w) _ _ _ _ h (LRel.tail hx)
   refine .same hr (v' := v') ?_ q2
   cases isMax <;> simpa [Builtin.max_, Builtin.min_] using q1
 ·simp at h
theorem optO_rel (he : EvRel ρ ev ev') {x : Option Operand} {y : Option Opd} (h : optO x = some y) : OVal ρ (y.map ev) (x.map ev') := by
 cases x with
 | none => simp [optO] at h; subst h; trivial
 | some x =>
  simp [optO] at h
  obtain ⟨a, h1, rfl⟩ := h
  exact he _ _ h1
theorem placesS_rel (he : EvRel ρ ev ev') {fs : Array Field} {ps : List (Nat × Operand)} {qs : List (Nat × Nat × Opd)} (h : placesS P fs ps = some qs) :
  qs.length = ps.length ∧ ∀ (i : Nat) p q, ps[i]? = some p → qs[i]? = some q → (∃ f, fs[p.1]? = some f ∧ q.1 = f.offset ∧ sizeT P f.type = some q.2.1) ∧ VRel ρ (ev q.2.2) (ev' p.2) := by
 refine ⟨allSome_length h, fun i p q hp hq => ?_⟩
 obtain ⟨q', h1, h2⟩ := allSome_get h i p hp
 rw [hq] at h1; simp at h1; subst h1
 split at h2
 ·rename_i f x hf hx
  simp at h2
  obtain ⟨s, h3, rfl⟩ := h2
  exact ⟨⟨f, hf, rfl, h3⟩, he _ _ hx⟩
 ·simp at h2
theorem placesA_rel (he : EvRel ρ ev ev') {sz : Nat} {ps : List (Nat × Operand)} {qs : List (Nat × Nat × Opd)} (h : placesA sz ps = some qs) :
  qs.length = ps.length ∧ ∀ (i : Nat) p q, ps[i]? = some p → qs[i]? = some q → q.1 = p.1 * sz ∧ q.2.1 = sz ∧ VRel ρ (ev q.2.2) (ev' p.2) := by
 refine ⟨allSome_length h, fun i p q hp hq => ?_⟩
 obtain ⟨q', h1, h2⟩ := allSome_get h i p hp
 rw [hq] at h1; simp at h1; subst h1
 simp at h2
 obtain ⟨s, h3, rfl⟩ := h2
 exact ⟨rfl, rfl, he _ _ h3⟩
theorem run_places : ∀ (fs : List Field) (ps : List (Nat × Nat)), (∀ (i : Nat) f, fs[i]? = some f → ∃ s, sizeT P f.type = some s) → ∃ ps : List (Nat × Nat), (fs.mapM (fun f => do pure (f.offset, ← sizeOf f.type) : Field → Sem (Nat × Nat))).run P w = .ok ps w ∧
  ∀ (i : Nat) f, fs[i]? = some f → ∃ s, sizeT P f.type = some s ∧ ps[i]? = some (f.offset, s)
 | [], _, _ => ⟨[], by simp, fun i f h => by simp at h⟩
 | f :: fs, _, h => by
  obtain ⟨s, hs⟩ := h 0 f rfl
  obtain ⟨ps, h1, h2⟩ := run_places fs [] fun i g hg => h (i + 1) g (by simpa using hg)
  refine ⟨(f.offset, s) :: ps, ?_, fun i g hg => ?_⟩
  ·rw [List.mapM_cons]
   simp only [Sem.run_bind, run_sizeOf' hs, Result.andThen_ok, Sem.run_pure, h1]
  ·cases i with
   | zero => simp at hg; subst hg; exact ⟨s, hs, rfl⟩
   | succ i => simpa using h2 i g (by simpa using hg)
theorem build_sim (hr : Rel P n0 ρ H w) (he : EvRel ρ ev ev') {ty t : TypeId} {parts : Array (Nat × Operand)} {aop : Aop} (hc : compOp P ty (.build t parts) = some aop) (h : step R lim ev H aop = some (v, H')) :
  Sim1 P n0 lim ρ H w (Instr.build t (parts.map fun (i, x) => (i, ev' x))) v H' := by
 simp only [compOp] at hc
 have hparts : (parts.map fun (i, x) => (i, ev' x)).toList = parts.toList.map fun p => (p.1, ev' p.2) := by simp
 split at hc
 ·rename_i fs z hu hz
  split at hc
  ·rename_i hall
   simp at hc
   obtain ⟨qs, hq, rfl⟩ := hc
   obtain ⟨h1, h2⟩ := val_some h
   rw [Option.map_eq_some_iff] at h1
   obtain ⟨r, h1, rfl⟩ := h1
   subst h2
   obtain ⟨i, zv, hi, hzv, hzl, hzc, hzr, hz1⟩ := zeroT_inv ρ hz
   obtain ⟨ps, hp1, hp2⟩ := run_places (P := P) (w := w) fs.toList [] fun i f hf => by
    have := Array.all_eq_true_iff_forall_mem.1 hall f (by
     obtain ⟨hlt, e⟩ := List.getElem?_eq_some_iff.1 hf
     rw [← e]; simp)
    exact Option.isSome_iff_exists.1 this
   obtain ⟨hl, hq'⟩ := placesS_rel he hq
   obtain ⟨c', r1, r2⟩ := fill_sim (ev := ev) (ev' := ev') (fun i => ps.toArray[i]?) parts.toList qs z zv.cells r hl (fun k p q a b => by
    obtain ⟨⟨f, e1, e2, e3⟩, e4⟩ := hq' k p q a b
    obtain ⟨s, e5, e6⟩ := hp2 p.1 f (by simpa using e1)
    rw [e3] at e5; simp at e5
    exact ⟨by simp [e6, e2, e5], e4⟩) hzr h1
   refine .same hr (v' := .agg c') ?_ (VRel.agg_of r2)
   unfold Instr.build
   simp only [Sem.run_bind, run_zeroValue' hi hzv, Result.andThen_ok, run_und hu]
   rw [Array.mapM_eq_mapM_toList]
   simp only [Sem.run_map, hp1, Result.andThen_ok]
   rw [hparts, r1]
   rfl
  ·simp at hc
 ·rename_i n e z hu hz
  split at hc
  ·rename_i s hs
   simp at hc
   obtain ⟨qs, hq, rfl⟩ := hc
   obtain ⟨h1, h2⟩ := val_some h
   rw [Option.map_eq_some_iff] at h1
   obtain ⟨r, h1, rfl⟩ := h1
   subst h2
   obtain ⟨i, zv, hi, hzv, hzl, hzc, hzr, hz1⟩ := zeroT_inv ρ hz
   obtain ⟨hl, hq'⟩ := placesA_rel he hq
   obtain ⟨c', r1, r2⟩ := fill_sim (ev := ev) (ev' := ev') (fun i => some (i * s, s)) parts.toList qs z zv.cells r hl (fun k p q a b => by
    obtain ⟨e1, e2, e3⟩ := hq' k p q a b
    exact ⟨by rw [e1, e2], e3⟩) hzr h1
   refine .same hr (v' := .agg c') ?_ (VRel.agg_of r2)
   unfold Instr.build
   simp only [Sem.run_bind, run_zeroValue' hi hzv, Result.andThen_ok, run_und hu, run_sizeOf' hs]
   rw [hparts, r1]
   rfl
  ·simp at hc
 ·simp at hc
theorem fillAll_length : ∀ {qs : List (Nat × Nat × Opd)} {cs r : List AVal}, fillAll ev cs qs = some r → r.length = cs.length
 | [], cs, r, h => by simp [fillAll] at h; subst h; rfl
 | (off, size, x) :: qs, cs, r, h => by
  simp only [fillAll] at h
  split at h
  ·rename_i hc
   rw [fillAll_length h, put_length (by omega)]
  ·simp at h
theorem buildSlice_sim (hr : Rel P n0 ρ H w) (hlim : lim ≤ H.next) (hf : H.next < H'.next → ρ H.next = none) (he : EvRel ρ ev ev') {ty t : TypeId} {len : Nat} {parts : Array (Nat × Operand)} {aop : Aop} (hc : compOp P ty (.buildSlice t len parts) = some aop)
  (h : step R lim ev H aop = some (v, H')) : Sim1 P n0 lim ρ H w (Instr.buildSlice t len (parts.map fun (i, x) => (i, ev' x))) v H' := by
 simp only [compOp] at hc
 have hparts : (parts.map fun (i, x) => (i, ev' x)).toList = parts.toList.map fun p => (p.1, ev' p.2) := by simp
 split at hc
 ·rename_i e hu
  split at hc
  ·rename_i z hz
   split at hc
   ·rename_i hcond
    simp at hc
    obtain ⟨qs, hq, rfl⟩ := hc
    simp only [step, Option.map_eq_some_iff] at h
    obtain ⟨r, h1, h2⟩ := h
    simp at h2
    obtain ⟨rfl, rfl⟩ := h2
    obtain ⟨i, zv, hi, hzv, hzl, hzc, hzr, hz1⟩ := zeroT_inv ρ hz
    have hsize : sizeT P e = some i.size := by simp [sizeT, hi]
    obtain ⟨hl, hq'⟩ := placesA_rel he hq
    have hpos : 0 < i.size := by omega
    let zero : Array Value := if len * i.size = 0 then #[] else zv.cells
    have hzero : ((Array.range (len * i.size)).map (zero[· % zero.size]!)).toList = (List.replicate len zv.cells.toList).flatten := by
     by_cases h0 : len * i.size = 0
     ·have : len = 0 := by
       rcases Nat.mul_eq_zero.1 h0 with q | q
       ·exact q
       ·omega
      subst this
      simp
     ·simp only [zero, if_neg h0]
      have := flat_range zv.cells len (by omega)
      rw [hzc] at this ⊢
      exact this
    obtain ⟨c', r1, r2⟩ := fill_sim (ρ := ρ) (ev := ev) (ev' := ev') (fun k => some (k * i.size, i.size)) parts.toList qs (rep len z) ((Array.range (len * i.size)).map (zero[· % zero.size]!)) r hl (fun k p q a b => by
     obtain ⟨e1, e2, e3⟩ := hq' k p q a b
     exact ⟨by rw [e1, e2, hzl], e3⟩) (by rw [hzero]; exact rep_rel hzr len) h1
    obtain ⟨s1, s2⟩ := alloc_sim (P := P) (lim := lim) hr hlim (hf (by rw [Heap.next_push]; omega)) e r2
    refine ⟨.slice (some ⟨w.heap.size, 0, none⟩) len len, _, _, ?_, s2, .slX (upd_same _ _ _) (Nat.le_refl _)⟩
    unfold Instr.buildSlice
    simp only [Sem.run_bind, run_und hu, Result.andThen_ok, run_sizeOf' hsize]
    rw [if_neg (by rw [← hzl]; omega)]
    by_cases h0 : len * i.size = 0
    ·simp only [h0, if_true, Sem.run_bind, Sem.run_pure, Result.andThen_ok]
     have hz0 : zero = #[] := by simp [zero, h0]
     rw [hz0, h0] at r1
     rw [hparts, r1]
     simp only [Sem.run_bind, s1, Result.andThen_ok, Sem.run_pure]
    ·simp only [h0, if_false, Sem.run_bind, run_zeroValue' hi hzv, Sem.run_pure, Result.andThen_ok]
     have hz0 : zero = zv.cells := by simp [zero, h0]
     rw [hz0] at r1
     rw [hparts, r1]
     simp only [Sem.run_bind, s1, Result.andThen_ok, Sem.run_pure]
   ·simp at hc
  ·simp at hc
 ·simp at hc
end
end Go.Ahs
