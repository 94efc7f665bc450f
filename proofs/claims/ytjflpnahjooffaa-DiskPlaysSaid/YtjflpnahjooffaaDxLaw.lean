/- What the disk's laws say, plainly. -/
import Derived.Test.YtjflpnahjooffaaDxPure
set_option linter.unusedSimpArgs false
set_option linter.unusedVariables false
namespace Go.Proofs.Ytjflpnahjooffaa.disk
open Go.Ahs

/-! ## Looking up -/
section
variable {α : Type}
theorem lk_iff {fs : List (Str × α)} (h : Asc fs) {n : Str} {a : α} : lk fs n = some a ↔ (n, a) ∈ fs := ⟨lk_mem, lk_of_mem h.nodup⟩

theorem lk_ext {fs gs : List (Str × α)} {n : Str} (h : Asc fs) (h' : Asc gs) (hm : ∀ a, (n, a) ∈ fs ↔ (n, a) ∈ gs) : lk fs n = lk gs n := by
  cases hl : lk fs n with
  | some a => exact ((lk_iff h').2 ((hm a).1 ((lk_iff h).1 hl))).symm
  | none =>
    cases hl' : lk gs n with
    | none => rfl
    | some a => rw [(lk_iff h).2 ((hm a).2 ((lk_iff h').1 hl'))] at hl; simp at hl

theorem lk_ins {fs : List (Str × α)} (h : Asc fs) (n k : Str) (f : α) : lk (ins n f fs) k = if k = n then some f else lk fs k := by
  by_cases e : k = n
  · rw [if_pos e]
    exact (lk_iff (ins_asc h)).2 ((ins_mem h _ _).2 (.inl ⟨e, rfl⟩))
  · rw [if_neg e]
    refine lk_ext (ins_asc h) h fun a => ?_
    rw [ins_mem h]
    constructor
    · rintro (⟨e', _⟩ | ⟨_, h⟩)
      · exact absurd e' e
      · exact h
    · exact fun h => .inr ⟨e, h⟩

theorem lk_del {fs : List (Str × α)} (h : Asc fs) (n k : Str) : lk (del n fs) k = if k = n then none else lk fs k := by
  by_cases e : k = n
  · rw [if_pos e, lk_none, mem_keys]
    rintro ⟨a, ha⟩
    exact ((del_mem _ _).1 ha).1 e
  · rw [if_neg e]
    refine lk_ext (del_asc h) h fun a => ?_
    rw [del_mem]
    exact ⟨fun h => h.2, fun h => ⟨e, h⟩⟩
end

theorem lk_crash (keep torn : List Int) (n : Str) : ∀ (k : Nat) (fs : Fs), ∃ j, lk (crashFs keep torn k fs) n = (lk fs n).map fun f => if f.syn < f.recs.length then leftF f keep torn j else f
  | k, [] => ⟨0, rfl⟩
  | k, x :: xs => by
    by_cases e : x.1 = n
    · refine ⟨k, ?_⟩
      unfold crashFs
      by_cases hs : x.2.syn < x.2.recs.length
      · simp [lk, hs, e]
      · simp [lk, hs, e]
    · unfold crashFs
      by_cases hs : x.2.syn < x.2.recs.length
      · obtain ⟨j, hj⟩ := lk_crash keep torn n (k + 1) xs
        refine ⟨j, ?_⟩
        have : ∀ (y : Str × Fil) (ys : Fs), y.1 = x.1 → lk (y :: ys) n = lk ys n := by
          intro y ys hy
          simp [lk, hy, e]
        rw [if_pos hs, this (x.1, leftF x.2 keep torn k) (crashFs keep torn (k + 1) xs) rfl, hj, this x xs rfl]
      · obtain ⟨j, hj⟩ := lk_crash keep torn n k xs
        refine ⟨j, ?_⟩
        have : ∀ (y : Str × Fil) (ys : Fs), y.1 = x.1 → lk (y :: ys) n = lk ys n := by
          intro y ys hy
          simp [lk, hy, e]
        rw [if_neg hs, this x (crashFs keep torn k xs) rfl, hj, this x xs rfl]

/-! ## DiskLasts -/

/-- What lasts of a file. -/
structure Lasts (f g : Fil) : Prop where
  recs : f.recs <+: g.recs
  syn : f.recs.length ≤ g.syn
  cut : f.cut = true → g = f
  torn : f.cut = false → f.torn = []
def LastsD (n : Str) (f : Fil) (D : Dsk) : Prop := ∃ g, lk D.fs n = some g ∧ Lasts f g

theorem LastsD.oper {n : Str} {f : Fil} {D : Dsk} (h : LastsD n f D) {k : Dsk → Dsk} (hk : ∀ B, B.fs = D.fs → LastsD n f (k B)) : LastsD n f (operD D k).2 := by
  unfold operD
  split
  · obtain ⟨g, h1, h2⟩ := h
    exact ⟨g, by rw [burn_fs]; exact h1, h2⟩
  · exact hk _ (burn_fs D)

theorem LastsD.append {K : Nat} {n : Str} {f : Fil} {D : Dsk} (hD : DskOK K D) (h : LastsD n f D) (m r : Str) : LastsD n f (appendD D m r).2 := by
  unfold appendD
  split
  · exact h
  split
  · exact h
  split
  · exact h
  rename_i hc
  refine h.oper fun B hB => ?_
  obtain ⟨g, h1, h2⟩ := h
  unfold LastsD
  simp only [hB]
  rw [lk_ins hD.asc]
  by_cases e : n = m
  · subst e
    rw [if_pos rfl]
    rw [h1, Option.getD_some] at hc ⊢
    refine ⟨_, rfl, h2.recs.trans (List.prefix_append _ _), h2.syn, fun hf => ?_, h2.torn⟩
    have := h2.cut hf
    subst this
    exact absurd hf hc
  · rw [if_neg e]
    exact ⟨g, h1, h2⟩

theorem LastsD.sync {K : Nat} {n : Str} {f : Fil} {D : Dsk} (hD : DskOK K D) (hf : f.syn = f.recs.length) (h : LastsD n f D) (m : Str) : LastsD n f (syncD D m).2 := by
  unfold syncD onD
  split
  · exact h
  split
  · exact h
  rename_i g' hl
  refine h.oper fun B hB => ?_
  obtain ⟨g, h1, h2⟩ := h
  unfold LastsD
  simp only [hB]
  rw [lk_ins hD.asc]
  by_cases e : n = m
  · subst e
    rw [h1] at hl
    simp at hl
    subst hl
    rw [if_pos rfl]
    refine ⟨_, rfl, h2.recs, h2.recs.length_le, fun hc => ?_, h2.torn⟩
    have := h2.cut hc
    subst this
    rw [← hf]
  · rw [if_neg e]
    exact ⟨g, h1, h2⟩

theorem LastsD.crash {n : Str} {f : Fil} {D : Dsk} (hf : f.syn = f.recs.length) (h : LastsD n f D) (keep torn : List Int) : LastsD n f (crashD D keep torn) := by
  obtain ⟨g, h1, h2⟩ := h
  obtain ⟨j, hj⟩ := lk_crash keep torn n 0 D.fs
  rw [h1, Option.map_some] at hj
  refine ⟨_, hj, ?_⟩
  split
  · rename_i hs
    have hk : g.syn ≤ keptF g keep j := by unfold keptF; omega
    have := h2.syn
    refine ⟨?_, by show _ ≤ keptF g keep j; omega, fun hc => ?_, h2.torn⟩
    · show f.recs <+: g.recs.take (keptF g keep j)
      exact List.prefix_take_iff.2 ⟨h2.recs, by omega⟩
    · have := h2.cut hc
      subst this
      omega
  · exact h2

theorem LastsD.does {K : Nat} {n : Str} {f : Fil} {D : Dsk} (hD : DskOK K D) (hf : f.syn = f.recs.length) (h : LastsD n f D) {x : PAct} (h2 : x.act ≠ 2) (h3 : x.act ≠ 3) : LastsD n f (doesD D x).2 := by
  unfold doesD
  split
  · exact h.append hD _ _
  split
  · exact h.sync hD hf _
  split
  · exact h
  split
  · exact h
  split
  · exact h.crash hf _ _
  split <;> exact h

def mild (x : PAct) : Bool := !decide (x.act = 2) && !decide (x.act = 3)

theorem LastsD.plays {n : Str} {f : Fil} (hf : f.syn = f.recs.length) : ∀ {l : List PAct} {K : Nat} {D : Dsk}, DskOK K D → (∀ x ∈ l, x.ok) → LastsD n f D → LastsD n f (playsD D (l.filter mild)) 
  | [], K, D, hD, _, h => h
  | x :: l, K, D, hD, hx, h => by
    rw [List.filter_cons]
    split
    · rename_i hm
      simp only [mild, Bool.and_eq_true, Bool.not_eq_true', decide_eq_false_iff_not] at hm
      exact LastsD.plays hf (doesD_ok hD (hx x (by simp))) (fun y hy => hx y (by simp [hy])) (h.does hD hf hm.1 hm.2)
    · exact LastsD.plays hf hD (fun y hy => hx y (by simp [hy])) h

theorem crash_syn {K : Nat} {g : Fil} (hg : FilOK K g) {keep torn : List Int} {j : Nat} : (if g.syn < g.recs.length then leftF g keep torn j else g).syn = (if g.syn < g.recs.length then leftF g keep torn j else g).recs.length := by
  split
  · have := keptF_le hg.syn keep j
    simp only [leftF, List.length_take]; omega
  · have := hg.syn; omega

/-- The law, plainly. -/
theorem lasts_law {K : Nat} {D1 : Dsk} (h1 : DskOK K D1) (hoff : D1.off = false) (hfu : D1.fuse = 0) {name : Str} (hs : (syncD D1 name).1 = 0) {m : List PAct} (hm : ∀ x ∈ m, x.ok) (keep torn : List Int) :
    ∃ f g, lk (syncD D1 name).2.fs name = some f ∧ (syncD D1 name).2.off = false ∧ lk (crashD (playsD (syncD D1 name).2 (m.filter mild)) keep torn).fs name = some g ∧ bytesF f <+: bytesF g ∧ f.recs.length ≤ g.recs.length ∧ g.syn = g.recs.length := by
  have hb : burn D1 = D1 := by unfold burn; rw [if_pos hfu]
  have hlk : ∃ f0, lk D1.fs name = some f0 := by
    unfold syncD onD at hs
    rw [if_neg (by rw [hoff]; simp)] at hs
    split at hs
    · simp at hs
    · exact ⟨_, by assumption⟩
  obtain ⟨f0, hf0⟩ := hlk
  have e2 : (syncD D1 name).2 = { D1 with fs := ins name { f0 with syn := f0.recs.length } D1.fs } := by
    unfold syncD onD operD
    rw [if_neg (by rw [hoff]; simp), hf0, hb]
    simp [hoff]
  have hok2 := syncD_ok h1 name
  rw [e2] at hok2 ⊢
  have hl2 : lk (ins name { f0 with syn := f0.recs.length } D1.fs) name = some { f0 with syn := f0.recs.length } := by rw [lk_ins h1.asc, if_pos rfl]
  have hfo := h1.files _ _ (lk_mem hf0)
  have hL : LastsD name { f0 with syn := f0.recs.length } { D1 with fs := ins name { f0 with syn := f0.recs.length } D1.fs } := ⟨_, hl2, List.prefix_refl _, Nat.le_refl _, fun _ => rfl, hfo.torn⟩
  have hP := LastsD.plays (f := { f0 with syn := f0.recs.length }) rfl hok2 hm hL
  have hC := hP.crash rfl keep torn
  obtain ⟨g, q1, q2⟩ := hC
  refine ⟨_, g, hl2, hoff, q1, ?_, Nat.le_trans q2.syn ?_, ?_⟩
  · unfold bytesF
    cases hc : f0.cut with
    | true =>
      have := q2.cut hc
      rw [this]; exact List.prefix_refl _
    | false =>
      have ht : f0.torn = [] := q2.torn hc
      show f0.recs.flatten ++ f0.torn <+: _
      rw [ht, List.append_nil]
      obtain ⟨t, ht2⟩ := q2.recs
      have : f0.recs ++ t = g.recs := ht2
      rw [← this, List.flatten_append, List.append_assoc]
      exact List.prefix_append _ _
  all_goals
    have hokP := playsD_ok (l := m.filter mild) hok2 fun x hx => hm x (List.mem_filter.1 hx).1
    obtain ⟨g', r1, r2⟩ := hP
    obtain ⟨j, hj⟩ := lk_crash keep torn name 0 (playsD { D1 with fs := ins name { f0 with syn := f0.recs.length } D1.fs } (m.filter mild)).fs
    rw [r1, Option.map_some] at hj
    have hq : some g = some _ := q1.symm.trans hj
    simp only [Option.some.injEq] at hq
    have := crash_syn (hokP.files _ _ (lk_mem r1)) (keep := keep) (torn := torn) (j := j)
    rw [← hq] at this
    omega

/-! ## DiskCounts -/

def cnt (f : Fil) : Nat × Nat × Bool := (f.recs.length, f.syn, f.cut)
def cfs (fs : Fs) : List (Str × Nat × Nat × Bool) := fs.map fun x => (x.1, cnt x.2)
structure Alike (D E : Dsk) : Prop where
  fs : cfs D.fs = cfs E.fs
  off : D.off = E.off
  fuse : D.fuse = E.fuse

theorem lk_cfs (fs : Fs) (n : Str) : lk (cfs fs) n = (lk fs n).map cnt := by
  unfold lk cfs
  induction fs with
  | nil => rfl
  | cons x xs ih =>
    rw [List.map_cons, List.find?_cons, List.find?_cons]
    by_cases e : x.1 = n
    · simp [e]
    · simp only [decide_eq_false e]; exact ih
theorem ins_cfs (n : Str) (f : Fil) : ∀ (fs : Fs), cfs (ins n f fs) = ins n (cnt f) (cfs fs)
  | [] => rfl
  | x :: xs => by
    unfold ins cfs
    rw [List.map_cons]
    by_cases h : n < x.1
    · simp [h]
    · by_cases e : x.1 = n
      · show _ = if n < x.1 then (n, cnt f) :: (x.1, cnt x.2) :: List.map (fun x => (x.1, cnt x.2)) xs else if x.1 = n then (n, cnt f) :: List.map (fun x => (x.1, cnt x.2)) xs else _
        rw [if_neg h, if_pos e, if_neg h, if_pos e]; rfl
      · have := ins_cfs n f xs
        unfold cfs at this
        simp [h, e, this]
theorem del_cfs (n : Str) (fs : Fs) : cfs (del n fs) = del n (cfs fs) := by
  unfold cfs del
  rw [List.filter_map]; rfl

theorem Alike.lk {D E : Dsk} (h : Alike D E) (n : Str) : (lk D.fs n).map cnt = (Ahs.lk E.fs n).map cnt := by rw [← lk_cfs, ← lk_cfs, h.fs]
theorem Alike.burn {D E : Dsk} (h : Alike D E) : Alike (burn D) (disk.burn E) := by
  unfold disk.burn
  rw [h.fuse]
  split
  · exact h
  · exact ⟨h.fs, rfl, rfl⟩
theorem Alike.oper {D E : Dsk} (h : Alike D E) {k k' : Dsk → Dsk} (hk : ∀ B C, Alike B C → B.fs = D.fs → C.fs = E.fs → Alike (k B) (k' C)) : (operD D k).1 = (operD E k').1 ∧ Alike (operD D k).2 (operD E k').2 := by
  have hb := h.burn
  unfold operD
  rw [hb.off]
  split
  · exact ⟨rfl, hb⟩
  · exact ⟨rfl, hk _ _ hb (burn_fs D) (burn_fs E)⟩
theorem Alike.ins {D E : Dsk} (h : Alike D E) {f g : Fil} (hc : cnt f = cnt g) (n : Str) : Alike { D with fs := disk.ins n f D.fs } { E with fs := disk.ins n g E.fs } :=
  ⟨by show cfs (disk.ins n f D.fs) = cfs (disk.ins n g E.fs); rw [ins_cfs, ins_cfs, hc, h.fs], h.off, h.fuse⟩
theorem Alike.del {D E : Dsk} (h : Alike D E) (n : Str) : Alike { D with fs := disk.del n D.fs } { E with fs := disk.del n E.fs } :=
  ⟨by show cfs (disk.del n D.fs) = cfs (disk.del n E.fs); rw [del_cfs, del_cfs, h.fs], h.off, h.fuse⟩

theorem Alike.on {D E : Dsk} (h : Alike D E) (n : Str) {k k' : Fil → Dsk → Dsk} (hk : ∀ f g B C, cnt f = cnt g → Alike B C → B.fs = D.fs → C.fs = E.fs → Alike (k f B) (k' g C)) : (onD D n k).1 = (onD E n k').1 ∧ Alike (onD D n k).2 (onD E n k').2 := by
  unfold onD
  rw [h.off]
  split
  · exact ⟨rfl, h⟩
  · have hl := h.lk n
    cases h1 : Ahs.lk D.fs n with
    | none =>
      cases h2 : Ahs.lk E.fs n with
      | none => exact ⟨rfl, h⟩
      | some g => rw [h1, h2] at hl; simp at hl
    | some f =>
      cases h2 : Ahs.lk E.fs n with
      | none => rw [h1, h2] at hl; simp at hl
      | some g =>
        rw [h1, h2] at hl; simp at hl
        exact h.oper fun B C hB e1 e2 => hk f g B C hl hB e1 e2

theorem Alike.getD {D E : Dsk} (h : Alike D E) (n : Str) : cnt ((Ahs.lk D.fs n).getD noFil) = cnt ((Ahs.lk E.fs n).getD noFil) := by
  have hl := h.lk n
  cases h1 : Ahs.lk D.fs n <;> cases h2 : Ahs.lk E.fs n <;> rw [h1, h2] at hl <;> simp at hl ⊢
  exact hl

theorem Alike.append {D E : Dsk} (h : Alike D E) (n r s : Str) (hrs : r = [] ↔ s = []) : (appendD D n r).1 = (appendD E n s).1 ∧ Alike (appendD D n r).2 (appendD E n s).2 := by
  have hg := h.getD n
  have hg' := hg
  simp only [cnt, Prod.mk.injEq] at hg'
  unfold appendD
  by_cases h0 : E.off = true
  · simp only [h.off, h0, if_true]; exact ⟨trivial, h⟩
  by_cases hr : rightN n = false ∨ r = []
  · have hs := hr.imp id hrs.1
    simp only [h.off, h0, hr, hs, if_true, if_false]; exact ⟨rfl, h⟩
  have hs : ¬ (rightN n = false ∨ s = []) := fun q => hr (q.imp id hrs.2)
  by_cases hc : ((Ahs.lk E.fs n).getD noFil).cut = true
  · simp only [h.off, h0, hr, hs, hg'.2.2, hc, if_true, if_false]; exact ⟨rfl, h⟩
  simp only [h.off, h0, hr, hs, hg'.2.2, hc, if_true, if_false]
  refine h.oper fun B C hB e1 e2 => hB.ins ?_ n
  simp only [cnt, List.length_append, List.length_singleton, Prod.mk.injEq]
  exact ⟨by rw [hg'.1], hg'.2.1, by first | trivial | exact hg'.2.2⟩

theorem crash_cfs {keep torn : List Int} : ∀ {k : Nat} {fs gs : Fs}, cfs fs = cfs gs → cfs (crashFs keep torn k fs) = cfs (crashFs keep torn k gs)
  | k, [], [], _ => rfl
  | k, [], y :: ys, h => by simp [cfs] at h
  | k, x :: xs, [], h => by simp [cfs] at h
  | k, x :: xs, y :: ys, h => by
    simp only [cfs, List.map_cons, List.cons.injEq, Prod.mk.injEq, cnt] at h
    obtain ⟨⟨h1, h2, h3, h4⟩, h5⟩ := h
    unfold crashFs
    rw [h2, h3]
    split
    · have := crash_cfs (keep := keep) (torn := torn) (k := k + 1) (fs := xs) (gs := ys) h5
      have hk : keptF x.2 keep k = keptF y.2 keep k := by unfold keptF keepN; rw [h2, h3]
      simp only [cfs, List.map_cons, cnt, leftF, List.length_take, hk, h2, h4, h1] at this ⊢
      rw [this]
    · have := crash_cfs (keep := keep) (torn := torn) (k := k) (fs := xs) (gs := ys) h5
      simp only [cfs, List.map_cons, cnt, h1, h2, h3, h4] at this ⊢
      rw [this]

/-- The other act: with another text, or none where there was none. -/
def Other (x y : PAct) : Prop := y.act = x.act ∧ y.a = x.a ∧ y.n = x.n ∧ y.keep = x.keep ∧ y.torn = x.torn ∧ (x.act ≠ 0 → y.b = x.b) ∧ (x.act = 0 → (x.b = [] ↔ y.b = []))

theorem Alike.does {D E : Dsk} (h : Alike D E) {x y : PAct} (ho : Other x y) (h4 : x.act ≠ 4) : (doesD D x).1.2 = (doesD E y).1.2 ∧ Alike (doesD D x).2 (doesD E y).2 := by
  obtain ⟨o1, o2, o3, o4, o5, o6, o7⟩ := ho
  unfold doesD
  rw [o1, o2, o3, o4, o5]
  split
  · rename_i h0
    exact h.append _ _ _ (o7 h0)
  rename_i h0
  rw [o6 h0]
  split
  · refine h.on _ fun f g B C hc hB e1 e2 => hB.ins ?_ _
    simp only [cnt, Prod.mk.injEq] at hc ⊢
    exact ⟨hc.1, hc.1, hc.2.2⟩
  split
  · unfold renameD
    rw [h.off]
    split
    · exact ⟨rfl, h⟩
    split
    · exact ⟨rfl, h⟩
    exact h.on _ fun f g B C hc hB e1 e2 => (hB.del _).ins hc _
  split
  · exact h.on _ fun f g B C hc hB e1 e2 => hB.del _
  split
  · exact ⟨rfl, h.fs, h.off, rfl⟩
  split
  · exact ⟨rfl, crash_cfs h.fs, rfl, h.fuse⟩
  split
  · exact ⟨rfl, h.fs, rfl, h.fuse⟩
  · exact ⟨rfl, h⟩

/-! ## DiskBegins -/

theorem begins_file {K : Nat} {f : Fil} (h : FilOK K f) {keep torn : List Int} {j : Nat} {g : Fil} (hg : g = if f.syn < f.recs.length then leftF f keep torn j else f) :
    bytesF g <+: bytesF f ∧ g.recs.length ≤ f.recs.length ∧ g.syn = g.recs.length ∧ (g.recs.length < f.recs.length → bytesF g ≠ bytesF f) ∧ (g.cut = false → g.torn = []) := by
  have hsyn := crash_syn h (keep := keep) (torn := torn) (j := j)
  rw [← hg] at hsyn
  by_cases hs : f.syn < f.recs.length
  · rw [if_pos hs] at hg
    have hgo := leftF_ok h hs keep torn j
    rw [← hg] at hgo
    have hc : f.cut = false := by
      cases hcc : f.cut with
      | false => rfl
      | true => have := h.cutS hcc; omega
    have ht := h.torn hc
    have hl := keptF_le h.syn keep j
    have hgr : g.recs = f.recs.take (keptF f keep j) := by rw [hg]; rfl
    have hgl : g.recs.length = keptF f keep j := by rw [hgr, List.length_take]; omega
    have hgt : g.torn = tornF f keep torn j := by rw [hg]; rfl
    have key : keptF f keep j < f.recs.length → bytesF g <+: bytesF f ∧ (bytesF g).length < (bytesF f).length := by
      intro hlt
      have hsplit : f.recs.flatten = (f.recs.take (keptF f keep j)).flatten ++ (f.recs[keptF f keep j] ++ (f.recs.drop (keptF f keep j + 1)).flatten) := by
        conv => lhs; rw [← List.take_append_drop (keptF f keep j) f.recs, List.drop_eq_getElem_cons hlt, List.flatten_append, List.flatten_cons]
      have hne : f.recs[keptF f keep j] ≠ [] := h.ne _ (List.getElem_mem hlt)
      have hpos : 0 < f.recs[keptF f keep j].length := List.length_pos_iff.2 hne
      have htn : g.torn <+: f.recs[keptF f keep j] ∧ g.torn.length < f.recs[keptF f keep j].length := by
        rw [hgt]
        unfold tornF
        rw [List.getElem?_eq_getElem hlt]
        split
        · rename_i r t e1 e2
          simp at e1
          subst e1
          refine ⟨List.take_prefix _ _, ?_⟩
          have := Int.emod_lt_of_pos t (show (0 : Int) < (f.recs[keptF f keep j].length : Int) by omega)
          have := Int.emod_nonneg t (show (f.recs[keptF f keep j].length : Int) ≠ 0 by omega)
          rw [List.length_take]; omega
        · rw [ht]; exact ⟨List.nil_prefix, by simpa using hpos⟩
      unfold bytesF
      rw [hgr, ht, List.append_nil, hsplit]
      obtain ⟨t, ht2⟩ := htn.1
      refine ⟨⟨t ++ (f.recs.drop (keptF f keep j + 1)).flatten, by rw [← ht2]; simp⟩, ?_⟩
      simp only [List.length_append]
      have := htn.2
      omega
    refine ⟨?_, by omega, hsyn, fun hlt e => ?_, hgo.torn⟩
    · rcases Nat.lt_or_ge (keptF f keep j) f.recs.length with hlt | hge
      · exact (key hlt).1
      · have e : bytesF g = bytesF f := by
          unfold bytesF
          rw [hgr, hgt, List.take_of_length_le (by omega)]
          unfold tornF
          rw [List.getElem?_eq_none (by omega)]
        rw [e]; exact List.prefix_refl _
    · have := (key (by omega)).2
      rw [e] at this
      omega
  · rw [if_neg hs] at hg
    subst hg
    exact ⟨List.prefix_refl _, Nat.le_refl _, hsyn, fun h => by omega, h.torn⟩

end Go.Proofs.Ytjflpnahjooffaa.disk
