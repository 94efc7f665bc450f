/- Literals, slices, appending, copying, and the whole table of operations. -/
import Derived.Test.YtnlimogbokkfpaaGreatChsA7
set_option linter.unusedSimpArgs false
set_option linter.unusedVariables false
namespace Go.Ahs
section
variable {P : Program} {n0 lim : Nat} {ρ : Mp} {H H' : Heap} {w : World} {R : Caller} {ev : Opd → AVal} {ev' : Operand → Value} {v : AVal}
theorem all_one_put {cs xs : List AVal} {o : Nat} (h : ∀ x ∈ cs, x.one = true) (hx : ∀ x ∈ xs, x.one = true) : ∀ x ∈ put cs o xs, x.one = true := by
 intro x h1
 unfold put at h1
 simp only [List.mem_append] at h1
 rcases h1 with (h1 | h1) | h1
 ·exact h x (List.mem_of_mem_take h1)
 ·exact hx x h1
 ·exact h x (List.mem_of_mem_drop h1)
theorem foldl_set (off : Nat) : ∀ (vs : List Value) (k : Nat) (cs : Array Value), off + k + vs.length ≤ cs.size →
  ((vs.zipIdx k).foldl (fun (cs : Array Value) (p : Value × Nat) => cs.setIfInBounds (off + p.2) p.1) cs).toList = cs.toList.take (off + k) ++ vs ++ cs.toList.drop (off + k + vs.length)
 | [], k, cs, _ => by simp
 | v :: vs, k, cs, h => by
  simp only [List.length_cons] at h
  simp only [List.zipIdx_cons, List.foldl_cons]
  rw [foldl_set off vs (k + 1) (cs.setIfInBounds (off + k) v) (by rw [Array.size_setIfInBounds]; omega)]
  simp only [Array.toList_setIfInBounds, List.length_cons]
  have hlt : off + k < cs.toList.length := by simpa using (by omega : off + k < cs.size)
  have hlt' : off + k < cs.size := by omega
  rw [show off + (k + 1) = off + k + 1 from rfl, List.take_set, List.drop_set]
  rw [if_pos (by omega : off + k < off + k + 1 + vs.length)]
  rw [List.take_succ_eq_append_getElem hlt, List.set_append]
  simp only [List.length_take, Array.length_toList, Nat.min_eq_left (Nat.le_of_lt hlt'), Nat.lt_irrefl, if_false, Nat.sub_self, List.set_cons_zero,
    List.append_assoc, show off + k + 1 + vs.length = off + k + (vs.length + 1) by omega, List.cons_append, List.nil_append]
theorem put_lrel {cs xs : List AVal} {c : List Value} {as : List Value} {o : Nat} (h : LRel ρ cs c) (hx : LRel ρ xs as) : LRel ρ (put cs o xs) (c.take o ++ as ++ c.drop (o + as.length)) := by
 unfold put
 rw [hx.1]
 exact LRel.append (LRel.append (h.take o) hx) (h.drop _)
theorem fill_sim (place : Nat → Option (Nat × Nat)) : ∀ (ps : List (Nat × Operand)) (qs : List (Nat × Nat × Opd)) (cs : List AVal) (c : Array Value) (r : List AVal),
  qs.length = ps.length → (∀ (i : Nat) p q, ps[i]? = some p → qs[i]? = some q → place p.1 = some (q.1, q.2.1) ∧ VRel ρ (ev q.2.2) (ev' p.2)) → LRel ρ cs c.toList → fillAll ev cs qs = some r →
  ∃ c', Instr.fill place c (ps.map fun p => (p.1, ev' p.2)) = some c' ∧ LRel ρ r c'.toList
 | [], [], cs, c, r, _, _, hc, h => by
  simp [fillAll] at h; subst h
  exact ⟨c, by simp [Instr.fill], hc⟩
 | p :: ps, q :: qs, cs, c, r, hl, hp, hc, h => by
  obtain ⟨h1, h2⟩ := hp 0 p q rfl rfl
  obtain ⟨off, size, x⟩ := q
  simp only [fillAll] at h
  split at h
  ·rename_i hcond
   obtain ⟨e1, e2⟩ := hcond
   have hv := h2.cells
   have hlen : ((ev' p.2).cells).size = size := by have := hv.1; simp at this; omega
   have hcs : cs.length = c.size := by simpa using hc.1
   have hfold := foldl_set off (ev' p.2).cells.toList 0 c (by simp; omega)
   simp only [Nat.add_zero] at hfold
   obtain ⟨c', q1, q2⟩ := fill_sim place ps qs (put cs off (ev x).cells) ((ev' p.2).cells.zipIdx.foldl (fun cs (c, j) => cs.setIfInBounds (off + j) c) c) r (by simpa using hl)
    (fun i p' q' a b => hp (i + 1) p' q' (by simpa using a) (by simpa using b)) (by
     have : ((ev' p.2).cells.zipIdx.foldl (fun cs (c, j) => cs.setIfInBounds (off + j) c) c).toList = c.toList.take off ++ (ev' p.2).cells.toList ++ c.toList.drop (off + (ev' p.2).cells.toList.length) := by
      rw [← hfold, ← Array.foldl_toList, Array.toList_zipIdx]
     rw [this]
     exact put_lrel hc hv) h
   refine ⟨c', ?_, q2⟩
   simp only [List.map_cons, Instr.fill, h1]
   rw [if_neg (by simp [hlen]; omega)]
   exact q1
  ·simp at h
 | [], _ :: _, _, _, _, hl, _, _, _ => by simp at hl
 | _ :: _, [], _, _, _, hl, _, _, _ => by simp at hl
theorem rep_rel {z : List AVal} {v : Value} (h : LRel ρ z v.cells.toList) (n : Nat) : LRel ρ (rep n z) (List.replicate n v.cells.toList).flatten := LRel.flat n h
theorem flat_range {α : Type} [Inhabited α] (z : Array α) (n : Nat) (hz : 0 < z.size) : ((Array.range (n * z.size)).map fun i => z[i % z.size]!).toList = (List.replicate n z.toList).flatten := by
 simp only [Array.toList_map, Array.toList_range]
 induction n with
 | zero => simp
 | succ n ih =>
  rw [Nat.succ_mul, List.range_add, List.map_append, ih, List.replicate_succ', List.flatten_append]
  congr 1
  simp only [List.flatten_cons, List.flatten_nil, List.append_nil, List.map_map]
  apply List.ext_getElem
  ·simp
  ·intro i h1 h2
   simp at h1 h2
   have : (n * z.size + i) % z.size = i := by rw [Nat.mul_comm, Nat.mul_add_mod]; exact Nat.mod_eq_of_lt h1
   simp [this, getElem!_pos z i h1]
theorem zeroCells_eq (z : Array Value) (n : Nat) (hz : 0 < z.size) : (Builtin.zeroCells z n).toList = (List.replicate n z.toList).flatten := flat_range z n hz
theorem source_sim (hr : Rel P n0 ρ H w) {sz m : Nat} {x : AVal} {x' : Value} {new : List AVal} (hx : VRel ρ x x') (h : source H sz x = some (m, new)) :
  (Builtin.lenOf x').run P w = .ok m w ∧ new.length = m * sz ∧ ∀ k, k ≤ m → ∃ c : Array Value, (∀ w' : World, w'.heap = w.heap → (Builtin.firstCells sz k x').run P w' = .ok c w') ∧ LRel ρ (new.take (k * sz)) c.toList := by
 unfold source at h
 split at h
 ·split at h <;> simp at h
  rename_i hn
  obtain ⟨rfl, rfl⟩ := h
  subst hn
  cases hx
  exact ⟨rfl, by simp, fun k hk => ⟨#[], fun _ _ => by simp [Builtin.firstCells], by simpa using LRel.nil ρ⟩⟩
 ·rename_i b o n c
  split at h
  ·rename_i hn
   simp at h
   obtain ⟨rfl, rfl⟩ := h
   subst hn
   have : ∃ a cp, x' = .slice (some a) 0 cp := by cases hx <;> exact ⟨_, _, rfl⟩
   obtain ⟨a, cp, rfl⟩ := this
   refine ⟨rfl, by simp, fun k hk => ?_⟩
   obtain rfl : k = 0 := by omega
   exact ⟨#[], fun _ _ => by simp [Builtin.firstCells, loadCells, loadCellsFrom], by simpa using LRel.nil ρ⟩
  ·rename_i hn
   have : ∃ L cp, ρ b = some L ∧ x' = .slice (some ⟨L.blk, L.d + o, none⟩) n cp := by
    cases hx <;> first | exact ⟨_, _, by assumption, rfl⟩ | (exact absurd rfl hn)
   obtain ⟨L, cp, hb, rfl⟩ := this
   split at h
   ·rename_i cs hc
    simp at h
    obtain ⟨hcut, rfl⟩ := h
    obtain ⟨hle, rfl⟩ := cut_some hcut
    obtain ⟨cc, e, fr, h1, h2, h3, h4, h5⟩ := hr.cells hb hc
    refine ⟨rfl, by simp; omega, fun k hk => ?_⟩
    have hks : k * sz ≤ n * sz := Nat.mul_le_mul_right _ hk
    refine ⟨_, fun w' hw' => by simp only [Builtin.firstCells]; exact run_loadCells_blk (by rw [hw']; exact h1) (by omega), ?_⟩
    rw [List.take_take, Nat.min_eq_left hks]
    simpa using h5.drop_take (by omega)
   ·simp at h
 ·rename_i s
  split at h <;> simp at h
  rename_i hsz
  obtain ⟨rfl, rfl⟩ := h
  subst hsz
  cases hx with | str hs =>
  rename_i s'
  refine ⟨by simp [Builtin.lenOf, size_list hs], by simp, fun k hk => ?_⟩
  refine ⟨_, fun _ _ => by simp only [Builtin.firstCells]; rfl, ?_⟩
  have hd : (s'.extract 0 k).data.toList = s.take k := by
   rw [ByteArray.data_extract, Array.toList_extract, List.extract_eq_take_drop, hs]; simp
  simp only [Array.toList_map, hd, Nat.mul_one, ← List.map_take]
  exact LRel.map_same _ _ _ fun c _ => .int _ _
 ·simp at h
theorem slice_inv {b o n : Nat} {c : Cap} {x' : Value} (h : VRel ρ (.sl (some (b, o)) n c) x') : ∃ a cp, x' = .slice (some a) n cp := by
 cases h <;> exact ⟨_, _, rfl⟩
end
end Go.Ahs
