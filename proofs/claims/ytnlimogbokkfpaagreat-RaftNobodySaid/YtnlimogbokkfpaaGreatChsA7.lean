/- Each operation but calls, in the model beside the abstract machine. -/
import Derived.Test.YtnlimogbokkfpaaGreatChsA6
set_option linter.unusedSimpArgs false
set_option linter.unusedVariables false
namespace Go.Ahs
def SimOp (P : Program) (n0 lim : Nat) (ρ : Mp) (H : Heap) (w : World) (s : Sem Next) (v : AVal) (H' : Heap) : Prop :=
 ∃ x w' ρ', s.run P w = .ok x w' ∧ Post P n0 lim ρ H w ρ' H' w' ∧ ((∃ v', x = .value v' ∧ VRel ρ' v v') ∨ (x = .skip ∧ v = und))
def EvRel (ρ : Mp) (ev : Opd → AVal) (ev' : Operand → Value) : Prop := ∀ x x', copd x = some x' → VRel ρ (ev x') (ev' x)
section
variable {P : Program} {n0 lim : Nat} {ρ : Mp} {H H' : Heap} {w : World} {R : Caller} {ev : Opd → AVal} {ev' : Operand → Value} {v : AVal}
theorem SimOp.of1 {s : Sem Value} (h : Sim1 P n0 lim ρ H w s v H') : SimOp P n0 lim ρ H w (do pure (.value (← s))) v H' := by
 obtain ⟨v', w', ρ', h1, h2, h3⟩ := h
 exact ⟨.value v', w', ρ', by simp [h1], h2, .inl ⟨v', rfl, h3⟩⟩
theorem SimOp.value (hr : Rel P n0 ρ H w) {v' : Value} (hv : VRel ρ v v') : SimOp P n0 lim ρ H w (pure (.value v')) v H :=
 ⟨.value v', w, ρ, rfl, .refl hr, .inl ⟨v', rfl, hv⟩⟩
theorem val_some {H : Heap} {o : Option AVal} {v : AVal} {H' : Heap} (h : val H o = some (v, H')) : o = some v ∧ H' = H := by
 unfold val at h
 cases o <;> simp at h
 exact ⟨by rw [h.1], h.2.symm⟩
theorem cut_some {cs : List AVal} {o n : Nat} {r : List AVal} (h : cut cs o n = some r) : o + n ≤ cs.length ∧ r = (cs.drop o).take n := by
 unfold cut at h
 split at h <;> simp at h
 exact ⟨by assumption, h.symm⟩
theorem natOf_rel {v : AVal} {v' : Value} {n : Nat} (h : VRel ρ v v') (hn : natOf v = some n) : ∃ k i, v' = .int k i ∧ 0 ≤ i ∧ i.toNat = n := by
 unfold natOf at hn
 split at hn
 ·split at hn <;> simp at hn
  cases h
  exact ⟨_, _, rfl, by assumption, hn⟩
 ·simp at hn
theorem LRel.drop_take {ρ : Mp} {cs : List AVal} {c : Array Value} {d : Nat} (h : LRel ρ cs ((c.toList.drop d).take cs.length)) {o n : Nat} (ho : o + n ≤ cs.length) :
  LRel ρ ((cs.drop o).take n) ((c.toList.drop (d + o)).take n) := by
 have h1 := (h.drop o).take n
 rw [List.drop_take, List.drop_drop, List.take_take] at h1
 rwa [Nat.min_eq_left (by omega)] at h1
theorem aload_sim (hr : Rel P n0 ρ H w) {t : TypeId} {g : Option Nat} (ht : aggT P t = some g) {a : AVal} {a' : Value} (ha : VRel ρ a a') (h : aload H g a = some v) :
  ∃ p v', a' = .pointer (some p) ∧ (loadVar t p).run P w = .ok v' w ∧ VRel ρ v v' := by
 unfold aload at h
 split at h
 ·rename_i b o
  cases ha with | ptr hb =>
  rename_i L
  obtain ⟨dsc, hu, hag, hsz⟩ := aggT_inv ht
  split at h
  ·rename_i cs n hc
   simp at h
   obtain ⟨r, hcut, rfl⟩ := h
   obtain ⟨hle, rfl⟩ := cut_some hcut
   obtain ⟨c, e, fr, h1, h2, h3, h4, h5⟩ := hr.cells hb hc
   refine ⟨_, .agg ((c.toList.drop (L.d + o)).take n).toArray, rfl, ?_, VRel.agg_of (by simpa using h5.drop_take hle)⟩
   simp only [loadVar, Sem.run_bind, hag, Option.isSome_some, if_true, Result.andThen_ok, hsz n rfl]
   rw [run_loadCells_blk h1 (by omega)]
   rfl
  ·rename_i cs hc
   obtain ⟨c, e, fr, h1, h2, h3, h4, h5⟩ := hr.cells hb hc
   obtain ⟨u, hu1, hu2⟩ := h5.get h
   have hlt : o < cs.length := by
    rcases Nat.lt_or_ge o cs.length with h | h'
    ·exact h
    ·rw [List.getElem?_eq_none h'] at h; simp at h
   refine ⟨_, u, rfl, ?_, hu2⟩
   rw [List.getElem?_take, if_pos hlt, List.getElem?_drop] at hu1
   simp only [loadVar, Sem.run_bind, hag, Option.isSome_none, Bool.false_eq_true, if_false, Result.andThen_ok, run_load, cell_of h1]
   rw [show c[L.d + o]? = some u by simpa using hu1]
  ·simp at h
 ·simp at h
theorem put_length {cs xs : List AVal} {o : Nat} (h : o + xs.length ≤ cs.length) : (put cs o xs).length = cs.length := by
 unfold put; simp; omega
theorem put_rel {cs xs : List AVal} {c c' : Array Value} {as : List Value} {d o : Nat} (hd : d + cs.length ≤ c.size) (h : LRel ρ cs ((c.toList.drop d).take cs.length)) (hx : LRel ρ xs as) (ho : o + xs.length ≤ cs.length)
  (hc : c'.toList = c.toList.take (d + o) ++ as ++ c.toList.drop (d + o + as.length)) :
  LRel ρ (put cs o xs) ((c'.toList.drop d).take (put cs o xs).length) ∧ c'.size = c.size := by
 have hl : as.length = xs.length := hx.1.symm
 have hcl : c.toList.length = c.size := by simp
 have hsz : c'.size = c.size := by
  rw [← Array.length_toList, hc]; simp; omega
 refine ⟨?_, hsz⟩
 rw [put_length ho]
 have e : (c'.toList.drop d).take cs.length = ((c.toList.drop d).take cs.length).take o ++ as ++ ((c.toList.drop d).take cs.length).drop (o + xs.length) := by
  rw [hc]
  apply List.ext_getElem?
  intro i
  simp only [List.getElem?_take, List.getElem?_drop, List.getElem?_append, List.length_append, List.length_take, List.length_drop, hcl, hl]
  by_cases h1 : i < cs.length
  ·by_cases h2 : i < o
   ·have g1 : d + i < d + o := by omega
    have g2 : d + i < min (d + o) c.size + xs.length := by omega
    have g3 : d + i < min (d + o) c.size := by omega
    have g4 : i < min o (min cs.length (c.size - d)) + xs.length := by omega
    have g5 : i < min o (min cs.length (c.size - d)) := by omega
    simp [h1, h2, g1, g2, g3, g4, g5]
   ·by_cases h3 : i < o + xs.length
    ·have g2 : d + i < min (d + o) c.size + xs.length := by omega
     have g3 : ¬ d + i < min (d + o) c.size := by omega
     have g4 : i < min o (min cs.length (c.size - d)) + xs.length := by omega
     have g5 : ¬ i < min o (min cs.length (c.size - d)) := by omega
     have e1 : d + i - min (d + o) c.size = i - o := by omega
     have e2 : i - min o (min cs.length (c.size - d)) = i - o := by omega
     simp [h1, g2, g3, g4, g5, e1, e2]
    ·have g2 : ¬ d + i < min (d + o) c.size + xs.length := by omega
     have g4 : ¬ i < min o (min cs.length (c.size - d)) + xs.length := by omega
     have e1 : d + o + xs.length + (d + i - (min (d + o) c.size + xs.length)) = d + i := by omega
     have e2 : o + xs.length + (i - (min o (min cs.length (c.size - d)) + xs.length)) = i := by omega
     simp [h1, g2, g4, e1, e2]
  ·have g4 : ¬ i < min o (min cs.length (c.size - d)) + xs.length := by omega
   have e2 : o + xs.length + (i - (min o (min cs.length (c.size - d)) + xs.length)) = i := by omega
   simp [h1, g4, e2]
 rw [e]
 exact LRel.append (LRel.append (h.take o) hx) (h.drop _)
theorem LRel.one {xs : List AVal} {as : List Value} (h : LRel ρ xs as) (h1 : xs.all (·.one) = true) : ∀ a ∈ as, a.oneCell' = true := by
 intro a ha
 obtain ⟨i, hi, rfl⟩ := List.getElem_of_mem ha
 have hi' : i < xs.length := by rw [h.1]; exact hi
 rw [(h.2 i xs[i] as[i] (List.getElem?_eq_getElem hi') (List.getElem?_eq_getElem hi)).one]
 exact List.all_eq_true.1 h1 _ (List.getElem_mem hi')
theorem write_sim (hr : Rel P n0 ρ H w) (hl : n0 ≤ lim) {b o : Nat} {L : Loc} {cs xs : List AVal} {as : List Value} (hb : lim ≤ b) (hρ : ρ b = some L) (hc : H.cells b = some cs) (hx : LRel ρ xs as)
  (h1 : xs.all (·.one) = true) (ho : o + xs.length ≤ cs.length) :
  ∃ w', (storeCells ⟨L.blk, L.d + o, none⟩ as).run P w = .ok () w' ∧ Post P n0 lim ρ H w ρ (H.set b (.cells (put cs o xs))) w' := by
 obtain ⟨c, e, fr, g1, g2, g3, g4, g5⟩ := hr.cells hρ hc
 obtain ⟨w', c', r1, r2, r3, r4, r6, r5⟩ := run_storeCells_blk (P := P) (blk := L.blk) (o := L.d + o) as 0 w c g1 (by rw [← hx.1]; omega) (fun k _ hk => g3 (by omega) k (by rw [← hx.1] at hk; omega)) (hx.one h1)
 simp only [Nat.add_zero] at r5
 obtain ⟨q1, q2⟩ := put_rel g4 g5 hx ho r5
 exact ⟨w', r1, hr.write hl hb hρ hc (put_length ho) g1 r2 r3 r4 q2 q1 r6⟩
theorem astore_sim (hr : Rel P n0 ρ H w) (hl : n0 ≤ lim) {t : TypeId} {n : Nat} (ht : sizeT P t = some n) {a x : AVal} {a' x' : Value} (ha : VRel ρ a a') (hx : VRel ρ x x') (h : astore lim H n a x = some H') :
  ∃ w', (Instr.storeAt t a' x').run P w = .ok () w' ∧ Post P n0 lim ρ H w ρ H' w' := by
 unfold astore at h
 split at h
 ·rename_i b o
  cases ha with | ptr hb =>
  rename_i L
  split at h
  ·rename_i cs hc
   split at h
   ·rename_i hcond
    obtain ⟨c1, c2, c3, c4⟩ := hcond
    simp at h; subst h
    obtain ⟨w', r1, r2⟩ := write_sim (P := P) (o := o) hr hl c1 hb hc hx.cells c4 (by omega)
    refine ⟨w', ?_, r2⟩
    have hsz : x'.cells.size = n := by have := hx.cells.1; simp at this; omega
    simp only [Instr.storeAt, Instr.sureAddr, Sem.run_bind, Sem.run_pure, Result.andThen_ok, storeVar, run_sizeOf' ht, hsz, ne_eq, not_true_eq_false, if_false]
    exact r1
   ·simp at h
  ·simp at h
 ·simp at h
theorem alloc_sim (hr : Rel P n0 ρ H w) (hlim : lim ≤ H.next) (hf : ρ H.next = none) {cs : List AVal} {c : Array Value} (e : TypeId) (hc : LRel ρ cs c.toList) :
  (newRow e c).run P w = .ok ⟨w.heap.size, 0, none⟩ { w with heap := w.heap.push (.cells c e) } ∧
  Post P n0 lim ρ H w (upd ρ H.next ⟨w.heap.size, 0, c.size⟩) (H.push (.cells cs)) { w with heap := w.heap.push (.cells c e) } := by
 have hlen : cs.length = c.size := by simpa using hc.1
 refine ⟨by simp [newRow], ?_⟩
 refine hr.alloc hlim hf cs c e (0, 0) (by omega) ?_ (fun i _ h => by simp at h) rfl ⟨rfl, rfl, rfl⟩
 rw [List.take_of_length_le (by simp; omega)]; exact hc
theorem part_sim (t : TypeId) {g : Option Nat} (ht : aggT P t = some g) {cs : List AVal} {c : Array Value} (hc : LRel ρ cs c.toList) {off : Nat} (h : partOf cs off g = some v) (w : World) :
  ∃ v', (part t c off).run P w = .ok v' w ∧ VRel ρ v v' := by
 obtain ⟨dsc, hu, hag, hsz⟩ := aggT_inv ht
 have hlen : cs.length = c.size := by simpa using hc.1
 unfold partOf at h
 split at h
 ·rename_i n
  simp at h
  obtain ⟨r, hcut, rfl⟩ := h
  obtain ⟨hle, rfl⟩ := cut_some hcut
  refine ⟨.agg (c.extract off (off + n)), ?_, VRel.agg_of ?_⟩
  ·simp only [part, Sem.run_bind, hag, Option.isSome_some, if_true, Result.andThen_ok, hsz n rfl, Sem.run_pure]
  ·have := (hc.drop off).take n
   simpa [Array.toList_extract, List.extract_eq_take_drop] using this
 ·obtain ⟨u, h1, h2⟩ := hc.get h
  refine ⟨u, ?_, h2⟩
  have h1' : c[off]? = some u := by simpa using h1
  simp only [part, Sem.run_bind, hag, Option.isSome_none, Bool.false_eq_true, if_false, Result.andThen_ok, h1', Sem.run_pure]
def KindOf (P : Program) (t : TypeId) : EqK → Prop
 | .bool => P.underlying t = some .bool
 | .ptr => ∃ e, P.underlying t = some (.pointer e)
 | .sl => ∃ e, P.underlying t = some (.slice e)
 | .map => ∃ k e, P.underlying t = some (.map k e)
 | .fn => ∃ a b c, P.underlying t = some (.func a b c)
 | .iface | .nil => ∃ ms, P.underlying t = some (.interface ms)
 | .cells l => P.eqGuardType P.depth t = false ∧ leafs P 100 t = some l ∧ ((∃ fs, P.underlying t = some (.struct fs)) ∨ (∃ n e, P.underlying t = some (.array n e)))
def EqOK (P : Program) (t : TypeId) (a b : Value) (r : Bool) (w : World) : Prop :=
 (Op.equal t a b).run P w = .ok r w ∧ (∀ op x y, (a = .nilIface → b = .nilIface → (∃ v, x = .const v) ∨ ∃ v, y = .const v) → (eqGuard op t x y a b).run P w = .ok () w) ∧
  binOp .eql t a b = (do pure (.bool (← Op.equal t a b))) ∧ binOp .neq t a b = (do pure (.bool (!(← Op.equal t a b))))
theorem EqOK.of {t : TypeId} {a b : Value} {r : Bool} (h : ∀ d, (Op.equalIn (d + 1) t a b).run P w = .ok r w) (h1 : ∀ cs, a ≠ .agg cs) (h2 : a ≠ .nilIface ∨ b ≠ .nilIface)
  (h3 : binOp .eql t a b = (do pure (.bool (← Op.equal t a b)))) (h4 : binOp .neq t a b = (do pure (.bool (!(← Op.equal t a b))))) : EqOK P t a b r w :=
 ⟨h 9999, fun _ _ _ _ => eqGuard_int h1 h2 w, h3, h4⟩
theorem equal_bool {t : TypeId} {A B : AVal} {a b : Value} {r : Bool} (hu : KindOf P t .bool) (h : aeq .bool A B = some r) (hx : VRel ρ A a) (hy : VRel ρ B b) : EqOK P t a b r w := by
 simp only [KindOf] at hu
 simp only [aeq] at h
 split at h <;> simp at h
 subst h
 cases hx; cases hy
 exact .of (fun d => by simp only [Op.equalIn, Sem.run_bind, run_und hu, Result.andThen_ok, Sem.run_pure]) (by simp) (.inl (by simp)) rfl rfl
theorem equal_ptr {t : TypeId} {A B : AVal} {a b : Value} {r : Bool} (hu : KindOf P t .ptr) (h : aeq .ptr A B = some r) (hx : VRel ρ A a) (hy : VRel ρ B b) : EqOK P t a b r w := by
 obtain ⟨e, hu⟩ := hu
 simp only [aeq] at h
 split at h <;> simp at h <;> subst h <;> cases hx <;> cases hy <;>
  exact .of (fun d => by simp only [Op.equalIn, Sem.run_bind, run_und hu, Result.andThen_ok, Sem.run_pure] <;> rfl) (by simp) (.inl (by simp)) rfl rfl
theorem equal_sl {t : TypeId} {A B : AVal} {a b : Value} {r : Bool} (hu : KindOf P t .sl) (h : aeq .sl A B = some r) (hx : VRel ρ A a) (hy : VRel ρ B b) : EqOK P t a b r w := by
 obtain ⟨e, hu⟩ := hu
 simp only [aeq] at h
 split at h <;> simp at h <;> subst h <;> cases hx <;> cases hy <;>
  exact .of (fun d => by simp only [Op.equalIn, Sem.run_bind, run_und hu, Result.andThen_ok, Sem.run_pure] <;> rfl) (by simp) (.inl (by simp)) rfl rfl
theorem equal_map {t : TypeId} {A B : AVal} {a b : Value} {r : Bool} (hu : KindOf P t .map) (h : aeq .map A B = some r) (hx : VRel ρ A a) (hy : VRel ρ B b) : EqOK P t a b r w := by
 obtain ⟨k, e, hu⟩ := hu
 simp only [aeq] at h
 split at h <;> simp at h <;> subst h <;> cases hx <;> cases hy <;>
  exact .of (fun d => by simp only [Op.equalIn, Sem.run_bind, run_und hu, Result.andThen_ok, Sem.run_pure] <;> rfl) (by simp) (.inl (by simp)) rfl rfl
theorem equal_fn {t : TypeId} {A B : AVal} {a b : Value} {r : Bool} (hu : KindOf P t .fn) (h : aeq .fn A B = some r) (hx : VRel ρ A a) (hy : VRel ρ B b) : EqOK P t a b r w := by
 obtain ⟨x, y, z, hu⟩ := hu
 simp only [aeq] at h
 split at h <;> simp at h <;> subst h <;> cases hx <;> cases hy <;>
  exact .of (fun d => by simp only [Op.equalIn, Sem.run_bind, run_und hu, Result.andThen_ok, Sem.run_pure]) (by simp) (.inl (by simp)) rfl rfl
theorem equal_iface {t : TypeId} {A B : AVal} {a b : Value} {r : Bool} (hu : KindOf P t .iface) (h : aeq .iface A B = some r) (hx : VRel ρ A a) (hy : VRel ρ B b) : EqOK P t a b r w := by
 obtain ⟨ms, hu⟩ := hu
 simp only [aeq] at h
 split at h <;> simp at h <;> subst h <;> cases hx <;> cases hy <;>
  exact .of (fun d => by simp only [Op.equalIn, Sem.run_bind, run_und hu, Result.andThen_ok, Sem.run_pure]) (by simp) (by simp) rfl rfl
theorem equal_cells {t : TypeId} {l : List Leaf} {A B : AVal} {a b : Value} {r : Bool} (hu : KindOf P t (.cells l)) (h : aeq (.cells l) A B = some r) (hx : VRel ρ A a) (hy : VRel ρ B b) : EqOK P t a b r w := by
 obtain ⟨hg, hl, hu⟩ := hu
 simp only [aeq] at h
 split at h
 ·rename_i xs ys
  obtain ⟨as, rfl, la⟩ := hx.agg_inv
  obtain ⟨bs, rfl, lb⟩ := hy.agg_inv
  have hp : ∀ zs : Array Value, packT P t zs.toList = .agg zs := by
   intro zs
   unfold packT
   rcases hu with ⟨fs, hu⟩ | ⟨n, e, hu⟩ <;> simp [hu]
  have := equal_leafs 100 t l hl 10000 (by omega) xs ys r h ρ as.toList bs.toList la lb w
  rw [hp, hp] at this
  refine ⟨this, fun op x y _ => ?_, rfl, rfl⟩
  unfold eqGuard
  cases op <;> simp [hg]
 ·simp at h
theorem eqGuard_lit {op : BinOp} {t : TypeId} {x y : Operand} {a b : Value} (ha : ∀ cs, a ≠ .agg cs) (h : a = .nilIface → b = .nilIface → (∃ v, x = .const v) ∨ ∃ v, y = .const v) (w : World) : (eqGuard op t x y a b).run P w = .ok () w := by
 by_cases h1 : a = .nilIface
 ·by_cases h2 : b = .nilIface
  ·subst h1 h2
   unfold eqGuard
   rcases h rfl rfl with ⟨v, rfl⟩ | ⟨v, rfl⟩
   ·cases op <;> rfl
   ·cases op <;> cases x <;> rfl
  ·exact eqGuard_int ha (.inr h2) w
 ·exact eqGuard_int ha (.inl h1) w
theorem equal_nil {t : TypeId} {A B : AVal} {a b : Value} {r : Bool} (hu : KindOf P t .nil) (h : aeq .nil A B = some r) (hx : VRel ρ A a) (hy : VRel ρ B b) : EqOK P t a b r w := by
 obtain ⟨ms, hu⟩ := hu
 simp only [aeq] at h
 have key : (∀ d, (Op.equalIn (d + 1) t a b).run P w = .ok r w) ∧ (∀ cs, a ≠ .agg cs) ∧ binOp .eql t a b = (do pure (.bool (← Op.equal t a b))) ∧ binOp .neq t a b = (do pure (.bool (!(← Op.equal t a b)))) := by
  split at h <;> simp at h <;> subst h <;> cases hx <;> cases hy <;>
   exact ⟨fun d => by simp only [Op.equalIn, Sem.run_bind, run_und hu, Result.andThen_ok, Sem.run_pure], by simp, rfl, rfl⟩
 exact ⟨key.1 9999, fun _ _ _ h => eqGuard_lit key.2.1 h w, key.2.2.1, key.2.2.2⟩
theorem aeq_nil {k : EqK} {A B : AVal} {a b : Value} {r : Bool} (h : aeq k A B = some r) (hx : VRel ρ A a) (hy : VRel ρ B b) (ha : a = .nilIface) (hb : b = .nilIface) : k = .nil := by
 subst ha hb
 cases hx
 cases hy
 cases k <;> first | rfl | (simp [aeq] at h)
theorem nilLit_const {xo : Operand} {x : Opd} (h : copd xo = some x) (hn : isNilLit x = true) : ∃ v, xo = .const v := by
 cases xo with
 | const v => exact ⟨v, rfl⟩
 | tmp t => simp [copd] at h; subst h; simp [isNilLit] at hn
 | func f => simp [copd] at h; subst h; simp [isNilLit] at hn
 | «global» g => simp [copd] at h
theorem equal_any {t : TypeId} {k : EqK} {A B : AVal} {a b : Value} {r : Bool} (hu : KindOf P t k) (h : aeq k A B = some r) (hx : VRel ρ A a) (hy : VRel ρ B b) : EqOK P t a b r w := by
 cases k
 ·exact equal_bool hu h hx hy
 ·exact equal_ptr hu h hx hy
 ·exact equal_sl hu h hx hy
 ·exact equal_map hu h hx hy
 ·exact equal_fn hu h hx hy
 ·exact equal_iface hu h hx hy
 ·exact equal_cells hu h hx hy
 ·exact equal_nil hu h hx hy
theorem compBin_inv {op : BinOp} {t : TypeId} {x y : Opd} {aop : Aop} (hc : compBin P op t x y = some aop) :
  aop = .bin op x y ∨ ((op = .eql ∨ op = .neq) ∧ ∃ k, (KindOf P t k ∧ (k = .nil → isNilLit x = true ∨ isNilLit y = true)) ∧ aop = .eqv (op == .neq) k x y) := by
 have key : (op = .eql ∨ op = .neq) → (match P.underlying t with
  | some (.int _) | some .string => some (.bin op x y)
  | some .bool => some (.eqv (op == .neq) .bool x y)
  | some (.struct _) | some (.array _ _) =>
   if P.eqGuardType P.depth t then none else (leafs P 100 t).map fun l => .eqv (op == .neq) (.cells l) x y
  | some (.pointer _) => some (.eqv (op == .neq) .ptr x y)
  | some (.slice _) => some (.eqv (op == .neq) .sl x y)
  | some (.map _ _) => some (.eqv (op == .neq) .map x y)
  | some (.func _ _ _) => some (.eqv (op == .neq) .fn x y)
  | some (.interface _) => some (.eqv (op == .neq) (if (isNilLit x || isNilLit y) = true then .nil else .iface) x y)
  | _ => none) = some aop → aop = .bin op x y ∨ ((op = .eql ∨ op = .neq) ∧ ∃ k, (KindOf P t k ∧ (k = .nil → isNilLit x = true ∨ isNilLit y = true)) ∧ aop = .eqv (op == .neq) k x y) := by
  intro hop hc
  split at hc
  ·simp at hc; exact .inl hc.symm
  ·simp at hc; exact .inl hc.symm
  ·simp at hc; exact .inr ⟨hop, .bool, ⟨by assumption, by simp⟩, hc.symm⟩
  ·split at hc
   ·simp at hc
   ·rename_i hg
    simp at hc
    obtain ⟨l, hl, e⟩ := hc
    exact .inr ⟨hop, .cells l, ⟨⟨by simpa using hg, hl, .inl ⟨_, by assumption⟩⟩, by simp⟩, e.symm⟩
  ·split at hc
   ·simp at hc
   ·rename_i hg
    simp at hc
    obtain ⟨l, hl, e⟩ := hc
    exact .inr ⟨hop, .cells l, ⟨⟨by simpa using hg, hl, .inr ⟨_, _, by assumption⟩⟩, by simp⟩, e.symm⟩
  ·simp at hc; exact .inr ⟨hop, .ptr, ⟨⟨_, by assumption⟩, by simp⟩, hc.symm⟩
  ·simp at hc; exact .inr ⟨hop, .sl, ⟨⟨_, by assumption⟩, by simp⟩, hc.symm⟩
  ·simp at hc; exact .inr ⟨hop, .map, ⟨⟨_, _, by assumption⟩, by simp⟩, hc.symm⟩
  ·simp at hc; exact .inr ⟨hop, .fn, ⟨⟨_, _, _, by assumption⟩, by simp⟩, hc.symm⟩
  ·rename_i ms hu
   by_cases hn : (isNilLit x || isNilLit y) = true
   ·rw [if_pos hn] at hc
    simp only [Option.some.injEq] at hc
    exact .inr ⟨hop, .nil, ⟨⟨_, hu⟩, fun _ => by simpa using hn⟩, hc.symm⟩
   ·rw [if_neg hn] at hc
    simp only [Option.some.injEq] at hc
    exact .inr ⟨hop, .iface, ⟨⟨_, hu⟩, by simp⟩, hc.symm⟩
  ·simp at hc
 cases op
 case eql => exact key (.inl rfl) hc
 case neq => exact key (.inr rfl) hc
 all_goals (simp [compBin] at hc; exact .inl hc.symm)
theorem bin_sim (hr : Rel P n0 ρ H w) {op : BinOp} {t : TypeId} {x y : Opd} {xo yo : Operand} {aop : Aop} (hcx : copd xo = some x) (hcy : copd yo = some y) (hc : compBin P op t x y = some aop)
  (hx : VRel ρ (ev x) (ev' xo)) (hy : VRel ρ (ev y) (ev' yo)) (h : step R lim ev H aop = some (v, H')) :
  Sim1 P n0 lim ρ H w (do eqGuard op t xo yo (ev' xo) (ev' yo); binOp op t (ev' xo) (ev' yo)) v H' := by
 rcases compBin_inv hc with rfl | ⟨hop, k, ⟨hk, hkn⟩, rfl⟩
 ·obtain ⟨h1, rfl⟩ := val_some h
  have hg : (eqGuard op t xo yo (ev' xo) (ev' yo)).run P w = .ok () w := by
   generalize ev' xo = a' at *
   generalize ev' yo = b' at *
   generalize ev x = a at *
   generalize ev y = b at *
   unfold abin at h1
   split at h1
   ·cases hx; cases hy; exact eqGuard_int (by simp) (.inl (by simp)) w
   ·cases hx; cases hy; exact eqGuard_int (by simp) (.inl (by simp)) w
   ·simp at h1
  obtain ⟨v', w', ρ', q1, q2, q3⟩ := abin_sim (P := P) (lim := lim) hr (t := t) h1 hx hy
  exact ⟨v', w', ρ', by simp only [Sem.run_bind, hg, Result.andThen_ok, q1], q2, q3⟩
 ·obtain ⟨h1, rfl⟩ := val_some h
  rw [Option.map_eq_some_iff] at h1
  obtain ⟨r, h1, rfl⟩ := h1
  obtain ⟨e1, e2, e3, e4⟩ := equal_any (P := P) (w := w) hk h1 hx hy
  have e2 : ∀ op, (eqGuard op t xo yo (ev' xo) (ev' yo)).run P w = .ok () w := fun op => e2 op xo yo fun ha hb => by
   rcases hkn (aeq_nil h1 hx hy ha hb) with q | q
   ·exact .inl (nilLit_const hcx q)
   ·exact .inr (nilLit_const hcy q)
  rcases hop with rfl | rfl
  ·exact .same hr (v' := .bool r) (by simp only [Sem.run_bind, e2, Result.andThen_ok, e3, e1, Sem.run_pure]) (.bool _)
  ·exact .same hr (v' := .bool (!r)) (by simp only [Sem.run_bind, e2, Result.andThen_ok, e4, e1, Sem.run_pure]) (.bool _)
end
end Go.Ahs
