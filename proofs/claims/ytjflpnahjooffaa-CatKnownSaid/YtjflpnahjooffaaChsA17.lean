/- A region that draws its order comes to what the text's order comes to. -/
import Derived.Test.YtjflpnahjooffaaChsA16
set_option linter.unusedSimpArgs false
set_option linter.unusedVariables false
namespace Go.Ahs

section
variable {P : Program} {n0 lim : Nat} {R : Caller}

theorem OneStep.congr {o : AOper} {T T' : List AVal} {H H' : Heap} {v : AVal} (h : OneStep R lim o T H v H') (hs : ∀ t ∈ o.reads, T'[t]? = T[t]?) : OneStep R lim o T' H v H' := by
  have hw : wantedA T' o.guard = wantedA T o.guard := by
    unfold wantedA
    cases hg : o.guard with
    | none => rfl
    | some g =>
      obtain ⟨t, want⟩ := g
      simp only
      rw [hs t (by simp [AOper.reads, hg])]
  have he : ∀ x ∈ o.op.opds, St.ev T x = St.ev T' x := by
    intro x hx
    cases x with
    | val v => rfl
    | tmp t =>
      simp only [St.ev, List.getD_eq_getElem?_getD]
      rw [hs t (by
        simp only [AOper.reads, List.mem_append, List.mem_filterMap]
        exact .inl ⟨.tmp t, hx, rfl⟩)]
  unfold OneStep at *
  rw [hw]
  rw [step_congr he] at h
  exact h

theorem OneStep.pure {o : AOper} {T : List AVal} {H H' : Heap} {v : AVal} (h : OneStep R lim o T H v H') (hp : o.op.pure = true) : H' = H ∧ ∀ (lim2 : Nat) (H2 : Heap), OneStep R lim2 o T H2 v H2 := by
  rcases h with ⟨hw, h⟩ | ⟨hw, rfl, rfl⟩
  · obtain ⟨e, h2⟩ := step_pure hp h
    exact ⟨e, fun lim2 H2 => .inl ⟨hw, h2 _ H2⟩⟩
  · exact ⟨rfl, fun _ _ => .inr ⟨hw, rfl, rfl⟩⟩

/-- What the compiler has looked at in a region that draws. -/
structure DrawOK (P : Program) (ops : Array Oper) (l0 l : List AOper) : Prop where
  comp : allSome (compOper P ops) ops.toList = some l0
  len : l.length = ops.size
  bars : ∀ (i : Nat) (o : AOper), l[i]? = some o → ∃ o0, l0[i]? = some o0 ∧ o = { o0 with bar := o.bar, apart := o.apart } ∧ o.bar = (!o0.op.pure && !alone l0 (Region.before ops) i && !(lateAt l0 (Region.before ops) i).isSome) ∧ (o0.op.isLoad = true → o.apart = apartOf l0 (Region.before ops) i)
  edges : ∀ (i : Nat) (o : Oper) (e : Edge), ops[i]? = some o → e ∈ o.after → Region.binds .any e = true → e.on < i
  temps : tempsFree l0 (Region.before ops) = true

theorem DrawOK.of {ops : Array Oper} {l : List AOper} (h : compRegion P ops true = some l) : ∃ l0, DrawOK P ops l0 l := by
  unfold compRegion at h
  split at h
  · rename_i l0 hl0
    simp only [Bool.not_true, Bool.false_eq_true, if_false] at h
    split at h <;> simp at h
    rename_i hc
    simp only [Bool.and_eq_true] at hc
    obtain ⟨h1, h2⟩ := hc
    refine ⟨l0, hl0, by rw [← h]; simp [allSome_length hl0], ?_, ?_, h1⟩
    · intro i o ho
      rw [← h, List.getElem?_map, List.getElem?_zipIdx, Option.map_eq_some_iff] at ho
      obtain ⟨⟨o0, j⟩, hj, rfl⟩ := ho
      rw [Option.map_eq_some_iff] at hj
      obtain ⟨o1, h3, h4⟩ := hj
      simp at h4
      obtain ⟨rfl, rfl⟩ := h4
      exact ⟨o1, h3, rfl, by simp, fun e => by simp [e]⟩
    · intro i o e hi he hb
      rw [List.all_eq_true] at h2
      have hlt : i < ops.size := by
        rcases Nat.lt_or_ge i ops.size with q | q
        · exact q
        · rw [Array.getElem?_eq_none q] at hi; simp at hi
      have hm : (o, i) ∈ ops.toList.zipIdx := by
        rw [List.mk_mem_zipIdx_iff_getElem?]
        simpa using hi
      have := h2 (o, i) hm
      simp only at this
      rw [Array.all_eq_true_iff_forall_mem] at this
      have := this e he
      simpa [hb] using this
  · simp at h

/-- Two operations of which one writes what the other names, or which both come to memory and one is alone, are ordered. -/
theorem bitAt_bef {ops : Array Oper} {i j : Nat} (h : bitAt (Region.before ops) i j = true) (hij : i < j) : Bef ops i j := by
  unfold bitAt at h
  rw [Nat.max_eq_right (by omega), Nat.min_eq_left (by omega)] at h
  exact before_sound ops j i h

theorem bitAt_bef' {ops : Array Oper} {i j : Nat} (h : bitAt (Region.before ops) j i = true) (hij : i < j) : Bef ops i j := by
  unfold bitAt at h
  rw [Nat.max_eq_left (by omega), Nat.min_eq_right (by omega)] at h
  exact before_sound ops j i h

theorem tempsFree_inv {l : List AOper} {b : Array Nat} (h : tempsFree l b = true) {i j : Nat} {oi oj : AOper} {d : Nat} (hi : l[i]? = some oi) (hj : l[j]? = some oj) (hij : i ≠ j) (hd : oj.dst = some d)
    (hn : oi.dst = some d ∨ d ∈ oi.reads) : bitAt b i j = true := by
  unfold tempsFree at h
  rw [List.all_eq_true] at h
  have h1 := h (oj, j) (by rw [List.mk_mem_zipIdx_iff_getElem?]; exact hj)
  simp only [hd] at h1
  rw [List.all_eq_true] at h1
  have h2 := h1 (oi, i) (by rw [List.mk_mem_zipIdx_iff_getElem?]; exact hi)
  simp only [Bool.or_eq_true, beq_iff_eq, Bool.not_eq_true', Bool.or_eq_false_iff] at h2
  rcases h2 with (h2 | h2) | ⟨h2, h3⟩
  · exact absurd h2 hij
  · exact h2
  · rcases hn with hn | hn
    · simp [hn] at h2
    · rw [List.contains_eq_mem] at h3; simp at h3; exact absurd hn h3

theorem alone_inv {l : List AOper} {b : Array Nat} {i : Nat} (h : alone l b i = true) {j : Nat} {oj : AOper} (hj : l[j]? = some oj) (hp : oj.op.pure = false) (hij : j ≠ i) : bitAt b i j = true := by
  unfold alone at h
  rw [List.all_eq_true] at h
  have h1 := h (oj, j) (by rw [List.mk_mem_zipIdx_iff_getElem?]; exact hj)
  simp only [hp, Bool.false_or, Bool.or_eq_true, beq_iff_eq] at h1
  exact h1.resolve_left hij

theorem aload_inv {H : Heap} {g : Option Nat} {x v : AVal} (h : aload H g x = some v) : ∃ b o, x = .ptr (some (b, o)) ∧ ∃ cs, H.cells b = some cs := by
  unfold aload at h
  split at h
  case h_2 => simp at h
  rename_i b o
  refine ⟨b, o, rfl, ?_⟩
  cases hc : H.cells b with
  | none => rw [hc] at h; simp at h
  | some cs => exact ⟨cs, rfl⟩

theorem aload_congr {H H' : Heap} {g : Option Nat} {b o : Nat} (h : H'.cells b = H.cells b) : aload H' g (.ptr (some (b, o))) = aload H g (.ptr (some (b, o))) := by
  simp only [aload, h]

theorem rootOf_unwritten {l : List AOper} : ∀ (f k : Nat) (a : Opd) (y : Opd), rootOf l f k a = some y → ∀ t, y = .tmp t → ∀ o' ∈ l, o'.dst ≠ some t
  | 0, k, a, y, h => by simp [rootOf] at h
  | f + 1, k, .val v, y, h => by
    simp [rootOf] at h; subst h
    intro t e; simp at e
  | f + 1, k, .tmp t, y, h => by
    unfold rootOf at h
    split at h
    · rename_i hu
      simp at h; subst h
      rintro t' e o' ho' e2
      simp at e; subst e
      simp only [unwritten, List.all_eq_true] at hu
      have := hu o' ho'
      rw [e2] at this; simp at this
    · split at h
      · split at h
        · split at h
          · split at h
            · exact rootOf_unwritten f _ _ y h
            · exact rootOf_unwritten f _ _ y h
            · exact rootOf_unwritten f _ _ y h
            · simp at h
          · simp at h
        · simp at h
      · simp at h

theorem lateAt_inv {l : List AOper} {b : Array Nat} {k : Nat} {y : Opd} (h : lateAt l b k = some y) : ∃ o n a x, l[k]? = some o ∧ o.op = .store n a x ∧ rootOf l 8 k a = some y ∧
    (∀ t, y = .tmp t → ∀ o' ∈ l, o'.dst ≠ some t) ∧ ∀ (j : Nat) (oj : AOper), l[j]? = some oj → oj.op.pure = false → j ≠ k → bitAt b k j = true ∨ (j < k ∧ (oj.op.isLoad = true ∨ (oj.op.isNew = true ∧ ∃ t, y = .tmp t))) := by
  unfold lateAt at h
  split at h
  case h_2 => simp at h
  rename_i o ho
  split at h
  case h_2 => simp at h
  rename_i n a x hop
  split at h
  case h_2 => simp at h
  rename_i y0 hroot
  split at h
  case isFalse => simp at h
  rename_i hc
  simp at h; subst h
  refine ⟨o, n, a, x, ho, hop, hroot, rootOf_unwritten 8 k a _ hroot, ?_⟩
  intro j oj hj hp hne
  rw [List.all_eq_true] at hc
  have := hc (oj, j) (by rw [List.mk_mem_zipIdx_iff_getElem?]; exact hj)
  simp only [hp, Bool.false_or, Bool.or_eq_true, beq_iff_eq, Bool.and_eq_true, decide_eq_true_eq] at this
  rcases this with (h1 | h1) | ⟨h1, h2⟩
  · exact absurd h1 hne
  · exact .inl h1
  · refine .inr ⟨h1, ?_⟩
    rcases h2 with h2 | ⟨h2, h3⟩
    · exact .inl h2
    · refine .inr ⟨h2, ?_⟩
      cases y0 with
      | tmp t => exact ⟨t, rfl⟩
      | val v => simp [Opd.isTmp] at h3

theorem apartOf_mem {l : List AOper} {b : Array Nat} {i k : Nat} {y : Opd} (hk : lateAt l b k = some y) (hik : i < k) (hb : bitAt b k i = false) : y ∈ apartOf l b i := by
  unfold apartOf
  rw [List.mem_filterMap]
  obtain ⟨o, _, _, _, ho, _⟩ := lateAt_inv hk
  have hlt : k < l.length := by
    rcases Nat.lt_or_ge k l.length with g | g
    · exact g
    · rw [List.getElem?_eq_none g] at ho; simp at ho
  exact ⟨k, by simpa using hlt, by simp [hik, hb, hk]⟩

/-- What makes a block makes the same one on any heap of the same size. -/
theorem step_new {R : Caller} {lim : Nat} {ev : Opd → AVal} {H H1 : Heap} {op : Aop} {v : AVal} (hn : op.isNew = true) (h : step R lim ev H op = some (v, H1)) :
    ∃ cs, H1 = H.push (.cells cs) ∧ ∀ (lim2 : Nat) (H2 : Heap), H2.next = H.next → step R lim2 ev H2 op = some (v, H2.push (.cells cs)) := by
  cases op <;> simp [Aop.isNew] at hn
  case alloc zero =>
    simp only [Ahs.step, Option.some.injEq, Prod.mk.injEq] at h
    obtain ⟨rfl, rfl⟩ := h
    exact ⟨zero, rfl, fun lim2 H2 e => by simp only [Ahs.step, e]⟩
  case box x =>
    simp only [Ahs.step] at h
    split at h <;> simp at h
    rename_i hc
    obtain ⟨rfl, rfl⟩ := h
    exact ⟨_, rfl, fun lim2 H2 e => by simp only [Ahs.step, e]; rw [if_pos hc]⟩
  case buildSlice zero len parts =>
    simp only [Ahs.step, Option.map_eq_some_iff] at h
    obtain ⟨cs, h1, h2⟩ := h
    simp at h2
    obtain ⟨rfl, rfl⟩ := h2
    exact ⟨cs, rfl, fun lim2 H2 e => by simp only [Ahs.step, e, h1, Option.map_some]⟩

/-- Are all that an operation must wait for among those that have been done? -/
def Closed (ops : Array Oper) (S : Nat → Bool) : Prop := ∀ (i : Nat) (o : Oper) (e : Edge), ops[i]? = some o → S i = true → e ∈ o.after → Region.binds .any e = true → S e.on = true

theorem Closed.bef {ops : Array Oper} {S : Nat → Bool} (hc : Closed ops S) {i j : Nat} (h : Bef ops j i) : S i = true → S j = true := by
  induction h with
  | edge hi he hb => exact fun hs => hc _ _ _ hi hs he hb
  | trans hi he hb _ ih => exact fun hs => ih (hc _ _ _ hi hs he hb)

theorem ready_bef {ops : Array Oper} {S : Nat → Bool} (hc : Closed ops S) {k : Nat} (hr : ∀ (o : Oper) (e : Edge), ops[k]? = some o → e ∈ o.after → Region.binds .any e = true → S e.on = true) {j : Nat} (h : Bef ops j k) : S j = true := by
  cases h with
  | edge hi he hb => exact hr _ _ hi he hb
  | trans hi he hb h => exact hc.bef h (hr _ _ hi he hb)

/-- A region's run in the text's order, and what is known of it. -/
structure Run (P : Program) (R : Caller) (lim : Nat) (ops : Array Oper) (l0 l : List AOper) (st : Nat → St) (vs : Nat → AVal) : Prop where
  ok : DrawOK P ops l0 l
  one : ∀ (i : Nat) (o : AOper), l[i]? = some o → OneStep R lim o (st i).tmps (st i).H (vs i) (st (i + 1)).H ∧ (st (i + 1)).tmps = putT (st i).tmps o.dst (vs i) ∧ (wantedA (st i).tmps o.guard = true → o.clear (st i).tmps = true)
  keeps : Keeps R
  calls : CallSim P R
  lim0 : lim ≤ (st 0).H.next

variable {ops : Array Oper} {l0 l : List AOper} {st : Nat → St} {vs : Nat → AVal}

theorem Run.mono1 (h : Run P R lim ops l0 l st vs) : ∀ i, i ≤ ops.size → lim ≤ (st i).H.next
  | 0, _ => h.lim0
  | i + 1, hi => by
    have ih := h.mono1 i (by omega)
    obtain ⟨o, ho⟩ : ∃ o, l[i]? = some o := ⟨l[i]'(by rw [h.ok.len]; omega), List.getElem?_eq_getElem _⟩
    have := ((h.one i o ho).1.keep h.keeps ih).1
    omega

theorem Run.mono (h : Run P R lim ops l0 l st vs) {i : Nat} : ∀ j, i ≤ j → j ≤ ops.size → (st i).H.next ≤ (st j).H.next
  | 0, hij, _ => by have : i = 0 := by omega
                    subst this; exact Nat.le_refl _
  | j + 1, hij, hj => by
    by_cases e : i = j + 1
    · subst e; exact Nat.le_refl _
    · have ih := h.mono (i := i) j (by omega) (by omega)
      obtain ⟨o, ho⟩ : ∃ o, l[j]? = some o := ⟨l[j]'(by rw [h.ok.len]; omega), List.getElem?_eq_getElem _⟩
      have := ((h.one j o ho).1.keep h.keeps (h.mono1 j (by omega))).1
      omega

/-- What nothing in a stretch writes stays. -/
theorem Run.stay (h : Run P R lim ops l0 l st vs) {t i : Nat} : ∀ j, i ≤ j → j ≤ ops.size → (∀ k, i ≤ k → k < j → ∀ o, l0[k]? = some o → o.dst ≠ some t) → (st j).tmps[t]? = (st i).tmps[t]?
  | 0, hij, _, _ => by have : i = 0 := by omega
                       subst this; rfl
  | j + 1, hij, hj, hno => by
    by_cases e : i = j + 1
    · rw [e]
    · obtain ⟨oj, hoj⟩ : ∃ oj, l[j]? = some oj := ⟨l[j]'(by rw [h.ok.len]; omega), List.getElem?_eq_getElem _⟩
      obtain ⟨oj0, hoj0, hoje, _⟩ := h.ok.bars j oj hoj
      rw [(h.one j oj hoj).2.1, ← h.stay (i := i) j (by omega) (by omega) (fun k a c => hno k a (by omega))]
      have hd : oj.dst ≠ some t := by
        have := hno j (by omega) (by omega) oj0 hoj0
        rw [hoje]; exact this
      unfold putT
      cases hdd : oj.dst with
      | none => rfl
      | some d =>
        simp only
        rw [List.getElem?_set_ne]
        rintro rfl; exact hd hdd

/-- An address lies in the block of what it is made of. -/
theorem Run.root (h : Run P R lim ops l0 l st vs) : ∀ (f k : Nat) (a y : Opd), rootOf l0 f k a = some y → k ≤ ops.size → ∀ b o, St.ev (st k).tmps a = .ptr (some (b, o)) → ∃ o', St.ev (st k).tmps y = .ptr (some (b, o'))
  | 0, k, a, y, hr, _, b, o, _ => by simp [rootOf] at hr
  | f + 1, k, .val v, y, hr, _, b, o, he => by
    simp [rootOf] at hr; subst hr
    exact ⟨o, he⟩
  | f + 1, k, .tmp t, y, hr, hk, b, o, he => by
    unfold rootOf at hr
    split at hr
    · simp at hr; subst hr
      exact ⟨o, he⟩
    · split at hr
      case h_2 => simp at hr
      rename_i i hi
      split at hr
      case h_2 => simp at hr
      rename_i oi0 hoi0
      split at hr
      case isFalse => simp at hr
      rename_i hc
      simp only [Bool.and_eq_true, decide_eq_true_eq, Option.isNone_iff_eq_none, List.all_eq_true] at hc
      obtain ⟨⟨hik, hg⟩, huniq⟩ := hc
      obtain ⟨oi, hoi⟩ : ∃ oi, l[i]? = some oi := ⟨l[i]'(by rw [h.ok.len]; omega), List.getElem?_eq_getElem _⟩
      obtain ⟨oi0', hoi0', hoie, _⟩ := h.ok.bars i oi hoi
      rw [hoi0] at hoi0'; simp at hoi0'; subst hoi0'
      have hd : oi0.dst = some t := by
        rw [List.findIdx?_eq_some_iff_getElem] at hi
        obtain ⟨hil, hq, _⟩ := hi
        rw [List.getElem?_eq_getElem hil] at hoi0
        simp at hoi0
        rw [hoi0] at hq
        simpa using hq
      obtain ⟨h1, h2, _⟩ := h.one i oi hoi
      have hgi : oi.guard = none := by rw [hoie]; exact hg
      have hdi : oi.dst = some t := by rw [hoie]; exact hd
      -- behind it nothing writes the temporary
      have hst : (st k).tmps[t]? = (st (i + 1)).tmps[t]? := h.stay k (by omega) hk (fun j a c oj hoj => by
        have := huniq (oj, j) (by rw [List.mk_mem_zipIdx_iff_getElem?]; exact hoj)
        simp only [Bool.or_eq_true, beq_iff_eq, Bool.not_eq_true', beq_eq_false_iff_ne] at this
        rcases this with e | e
        · omega
        · exact e)
      have hvi : vs i = .ptr (some (b, o)) := by
        simp only [St.ev, List.getD_eq_getElem?_getD] at he
        rw [hst, h2, hdi] at he
        simp only [putT, List.getElem?_set] at he
        split at he
        · split at he
          · simpa using he
          · simp [und] at he
        · rename_i e; exact absurd trivial e
      -- what it was made of
      have back : ∀ x, rootOf l0 f i x = some y → (∃ o1, St.ev (st i).tmps x = .ptr (some (b, o1))) → ∃ o', St.ev (st k).tmps y = .ptr (some (b, o')) := by
        rintro x hx ⟨o1, hxo⟩
        obtain ⟨o', ho'⟩ := h.root f i x y hx (by omega) b o1 hxo
        refine ⟨o', ?_⟩
        cases y with
        | val v => exact ho'
        | tmp t' =>
          have hun := rootOf_unwritten f i x _ hx t' rfl
          have := h.stay (t := t') (i := i) k (by omega) hk (fun j _ _ oj hoj => hun oj (List.mem_of_getElem? hoj))
          simp only [St.ev, List.getD_eq_getElem?_getD] at ho' ⊢
          rw [this]; exact ho'
      have hstep : ∀ op, oi0.op = op → op.pure = true → Ahs.step R (effLim lim oi (st i).H) (St.ev (st i).tmps) (st i).H op = some (vs i, (st (i + 1)).H) := by
        intro op hop _
        rcases h1 with ⟨_, hs⟩ | ⟨hw, _⟩
        · rw [hoie] at hs; rw [← hop]
          rw [hoie]; exact hs
        · rw [hgi] at hw; simp [wantedA] at hw
      split at hr
      · rename_i x hop
        have := hstep _ hop rfl
        simp only [Ahs.step, Option.some.injEq, Prod.mk.injEq] at this
        exact back x hr ⟨o, by rw [this.1, hvi]⟩
      · rename_i x hop
        have := hstep _ hop rfl
        simp only [Ahs.step] at this
        split at this
        · rename_i p hp
          simp at this
          exact back x hr ⟨o, by rw [hp, this.1, hvi]⟩
        · simp at this
      · rename_i x off hop
        have := hstep _ hop rfl
        simp only [Ahs.step] at this
        split at this
        · rename_i b1 o1 hp
          simp only [Option.some.injEq, Prod.mk.injEq] at this
          rw [hvi] at this
          simp at this
          exact back x hr ⟨o1, by rw [hp, this.1.1]⟩
        · simp at this
      · simp at hr

/-- Does an operation write what others may look at? -/
def Wr (l : List AOper) (i : Nat) : Prop := ∃ o, l[i]? = some o ∧ o.op.pure = false ∧ o.bar = false

instance (l : List AOper) : DecidablePred (Wr l) := fun i => by
  unfold Wr
  cases h : l[i]? with
  | none => exact .isFalse (by rintro ⟨o, h1, _⟩; simp at h1)
  | some o =>
    by_cases hp : o.op.pure = false ∧ o.bar = false
    · exact .isTrue ⟨o, rfl, hp⟩
    · exact .isFalse (by rintro ⟨o', h1, h2⟩; simp at h1; subst h1; exact hp h2)

/-- Between two writers nothing that was there changes. -/
theorem Run.agree (h : Run P R lim ops l0 l st vs) {i : Nat} : ∀ j, i ≤ j → j ≤ ops.size → (∀ k, i ≤ k → k < j → ¬ Wr l k) → ∀ b, b < (st i).H.next → (st j).H.get b = (st i).H.get b
  | 0, hij, _, _ => by have : i = 0 := by omega
                       subst this; exact fun _ _ => rfl
  | j + 1, hij, hj, hw => by
    by_cases e : i = j + 1
    · subst e; exact fun _ _ => rfl
    · intro b hb
      have ih := h.agree j (by omega) (by omega) (fun k a c => hw k a (by omega)) b hb
      obtain ⟨o, ho⟩ : ∃ o, l[j]? = some o := ⟨l[j]'(by rw [h.ok.len]; omega), List.getElem?_eq_getElem _⟩
      have hnw := hw j (by omega) (by omega)
      have h1 := (h.one j o ho).1
      have hm := h.mono (i := i) j (by omega) (by omega)
      cases hp : o.op.pure with
      | true => rw [(h1.pure hp).1]; exact ih
      | false =>
        cases hbr : o.bar with
        | false => exact absurd ⟨o, ho, hp, hbr⟩ hnw
        | true =>
          have := (h1.keep h.keeps (h.mono1 j (by omega))).2 b (by unfold effLim; rw [hbr]; simp only [if_true]; omega)
          rw [this]; exact ih

structure Inv (P : Program) (n0 lim : Nat) (ops : Array Oper) (l : List AOper) (st : Nat → St) (vs : Nat → AVal) (ρ0 : Mp) (a0 : Act) (w0 : World) (S : Nat → Bool) (ρ : Mp) (a : Act) (w : World) : Prop where
  closed : Closed ops S
  tm : LRel ρ (foldT l vs (st 0).tmps S ops.size) a.tmps.toList
  df : a.defers = a0.defers
  heap : ∃ q, q ≤ ops.size ∧ (∀ i, i < q → Wr l i → S i = true) ∧ (q < ops.size → Wr l q ∧ S q = false) ∧ (∀ i, i < ops.size → S i = true → (∀ o, l[i]? = some o → o.op.pure = false) → i < q) ∧ Rel P n0 ρ (st q).H w
  fresh : ∀ i, i < ops.size → S i = false → ∀ b, (st i).H.next ≤ b → b < (st (i + 1)).H.next → ρ b = none
  fr : Fr lim ρ0 (st 0).H.next (st ops.size).H.next w0 ρ w

theorem Run.start (h : Run P R lim ops l0 l st vs) {ρ : Mp} {a : Act} {w : World} (hr : Rel P n0 ρ (st 0).H w) (ht : LRel ρ (st 0).tmps a.tmps.toList) (hfr : ∀ b, (st 0).H.next ≤ b → b < (st ops.size).H.next → ρ b = none) :
    Inv P n0 lim ops l st vs ρ a w (fun _ => false) ρ a w := by
  obtain ⟨q, h1, h2, h3, h4⟩ := nextW (Wr l) ops.size ops.size 0 (by omega)
  have hag := h.agree (i := 0) q (by omega) h2 h3
  refine ⟨fun i o e _ hs => by simp at hs, ?_, rfl, ⟨q, h2, fun i hi hw => absurd hw (h3 i (by omega) hi), fun hq => ⟨h4 hq, rfl⟩, fun i _ hs => by simp at hs, ?_⟩, ?_, .refl⟩
  · rw [foldT_past l vs (st 0).tmps (fun _ => false) 0 ops.size (by omega) (fun _ _ _ => rfl)]
    exact ht
  · have hlive : ∀ b L x, ρ b = some L → (st q).H.get b = some x → (st 0).H.get b = some x := by
      intro b L x hb hx
      have hlt := Heap.get_lt hx
      rcases Nat.lt_or_ge b (st 0).H.next with g | g
      · rw [← hag b g]; exact hx
      · rw [hfr b g (by have := h.mono (i := q) ops.size h2 (Nat.le_refl _); omega)] at hb; simp at hb
    refine ⟨fun b L cs hb hx => hr.row b L cs hb (hlive b L _ hb hx), fun b L es cl hb hx => hr.map b L es cl hb (hlive b L _ hb hx), fun b L r hb hx => hr.loop b L r hb (hlive b L _ hb hx), hr.dom, ?_⟩
    intro b b' L L' g1 g2 g3 g4 g5 g6 g7 g8
    obtain ⟨x, hx⟩ := Option.isSome_iff_exists.1 g5
    obtain ⟨x', hx'⟩ := Option.isSome_iff_exists.1 g6
    have e1 := hlive b L x g3 hx
    have e2 := hlive b' L' x' g4 hx'
    exact hr.excl b b' L L' g1 g2 g3 g4 (by rw [e1]; rfl) (by rw [e2]; rfl) (by rw [e1, ← hx]; exact g7) (by rw [e2, ← hx']; exact g8)
  · intro i hi _ b g1 g2
    exact hfr b (by have := h.mono (i := 0) i (by omega) (by omega); omega) (by have := h.mono (i := i + 1) ops.size (by omega) (Nat.le_refl _); omega)

/-- The set of what has been done, one more. -/
def ins (S : Nat → Bool) (k : Nat) : Nat → Bool := fun i => if i = k then true else S i

theorem Run.step {F : Fence} {m : Nat} (hF : Wide F) (h : Run P R lim ops l0 l st vs) (hl : n0 ≤ lim) {ρ0 ρ : Mp} {a0 a : Act} {w0 w : World} {S : Nat → Bool} (hf0 : ∀ b, (st 0).H.next ≤ b → b < (st ops.size).H.next → ρ0 b = none)
    (I : Inv P n0 lim ops l st vs ρ0 a0 w0 S ρ a w) {k : Nat} (hk : k < ops.size) (hS : S k = false) (hready : ∀ (o : Oper) (e : Edge), ops[k]? = some o → e ∈ o.after → Region.binds .any e = true → S e.on = true)
    {K : Act → World → Prop} {Q : Exit → Act → World → Prop} (hK : ∀ ρ' a' w', Inv P n0 lim ops l st vs ρ0 a0 w0 (ins S k) ρ' a' w' → K a' w') : wpOpIn F m P ops Q k K a w := by
  obtain ⟨hcl, htm, hdf, ⟨q, hq, hq1, hq2, hq3, hrel⟩, hfresh, hfr⟩ := I
  obtain ⟨o, ho⟩ : ∃ o, l[k]? = some o := ⟨l[k]'(by rw [h.ok.len]; omega), List.getElem?_eq_getElem _⟩
  obtain ⟨o0, ho0, hoo, hbar, hapart⟩ := h.ok.bars k o ho
  obtain ⟨hone, hput, hclr⟩ := h.one k o ho
  obtain ⟨oc, hoc⟩ : ∃ oc, ops[k]? = some oc := ⟨ops[k], by simp [hk]⟩
  obtain ⟨y, hy1, hy2⟩ := allSome_get h.ok.comp k oc (by simpa using hoc)
  rw [ho0] at hy1; simp at hy1; subst hy1
  have hdst : o.dst = o0.dst := by rw [hoo]
  have hop : o.op = o0.op := by rw [hoo]
  have hrd : o.reads = o0.reads := by rw [hoo]; rfl
  have hlk := h.mono1 k (by omega)
  have hlq := h.mono1 q hq
  have hkn := (hone.keep h.keeps hlk).1
  -- ordered pairs
  have pair : ∀ (j : Nat) (oj : AOper), l[j]? = some oj → j ≠ k → ∀ t, oj.dst = some t → (o.dst = some t ∨ t ∈ o.reads) → S j = decide (j < k) := by
    intro j oj hj hjk t hd hn
    obtain ⟨oj0, hj0, hjo, _, _⟩ := h.ok.bars j oj hj
    have hb := tempsFree_inv h.ok.temps ho0 hj0 (Ne.symm hjk) (d := t) (by rw [← hd, hjo]) (by rw [← hdst, ← hrd]; exact hn)
    by_cases hlt : j < k
    · rw [ready_bef hcl hready (bitAt_bef' hb hlt)]; simp [hlt]
    · have : k < j := by omega
      have hbef := bitAt_bef hb this
      cases hs : S j with
      | false => simp [hlt]
      | true => rw [hcl.bef hbef hs] at hS; simp at hS
  have pairD : ∀ (j : Nat) (oj : AOper), l[j]? = some oj → j ≠ k → oj.dst.isSome → oj.dst = o.dst → S j = decide (j < k) := by
    intro j oj hj hjk hsm hd
    obtain ⟨t, ht⟩ := Option.isSome_iff_exists.1 hsm
    exact pair j oj hj hjk t ht (.inl (by rw [← hd, ht]))
  -- the temporaries that it looks at stand as they stood in the text's order
  have full : ∀ n, n ≤ ops.size → foldT l vs (st 0).tmps (fun _ => true) n = (st n).tmps := by
    intro n
    induction n with
    | zero => intro _; rfl
    | succ n ih =>
      intro hn
      obtain ⟨on, hon⟩ : ∃ on, l[n]? = some on := ⟨l[n]'(by rw [h.ok.len]; omega), List.getElem?_eq_getElem _⟩
      simp only [foldT, if_true, hon]
      rw [ih (by omega), (h.one n on hon).2.1]
  have look : ∀ t ∈ o.reads, (foldT l vs (st 0).tmps S ops.size)[t]? = (st k).tmps[t]? := by
    intro t ht
    rw [foldT_agree l vs (st 0).tmps t S (fun j => decide (j < k)) ops.size ?_]
    · rw [foldT_past l vs (st 0).tmps (fun j => decide (j < k)) k ops.size (by omega) (fun j a _ => by simp; omega)]
      rw [foldT_agree l vs (st 0).tmps t (fun j => decide (j < k)) (fun _ => true) k (fun j hj _ _ _ => by simp [hj]), full k (by omega)]
    · intro j hj oj hoj hd
      by_cases e : j = k
      · subst e; simp [hS]
      · exact pair j oj hoj e t hd (.inr ht)
  have hone' : OneStep R lim o (foldT l vs (st 0).tmps S ops.size) (st k).H (vs k) (st (k + 1)).H := hone.congr look
  have hins : foldT l vs (st 0).tmps (ins S k) ops.size = putT (foldT l vs (st 0).tmps S ops.size) o.dst (vs k) := by
    refine foldT_insert l vs (st 0).tmps S (ins S k) ops.size k o hk ho hS (by simp [ins]) (fun j hj => by simp [ins, hj]) ?_
    intro j hj1 hj2 oj hoj hsm hd
    rw [pairD j oj hoj (by omega) hsm hd]; simp; omega
  have hclosed : Closed ops (ins S k) := by
    intro i oi e hi hs he hb
    unfold ins at hs ⊢
    split
    · rfl
    · split at hs
      · subst_vars; exact hready oi e hi he hb
      · exact hcl i oi e hi hs he hb
  have hbarrec : ∀ {lim' : Nat} {T : List AVal} {H1 H2 : Heap} {u : AVal}, OneStep R lim' o T H1 u H2 → OneStep R lim' { o0 with bar := o.bar } T H1 u H2 := by
    intro lim' T H1 H2 u hx
    rw [hoo] at hx
    exact hx
  -- a writer is ordered against all that comes to memory, but some loads ahead of it
  have wr : ∀ (i : Nat) (oi : AOper), l[i]? = some oi → oi.op.pure = false → oi.bar = false → ∀ (j : Nat) (oj0 : AOper), l0[j]? = some oj0 → oj0.op.pure = false → j ≠ i →
      bitAt (Region.before ops) i j = true ∨ (j < i ∧ ∃ y, lateAt l0 (Region.before ops) i = some y ∧ (oj0.op.isLoad = true ∨ (oj0.op.isNew = true ∧ ∃ t, y = .tmp t))) := by
    intro i oi hoi hpi hbi j oj0 hj0 hpj hne
    obtain ⟨oi0, hoi0, hoie, hbie, _⟩ := h.ok.bars i oi hoi
    have hp0 : oi0.op.pure = false := by rw [← hpi, hoie]
    rw [hbi, hp0] at hbie
    cases hal : alone l0 (Region.before ops) i with
    | true => exact .inl (alone_inv hal hj0 hpj hne)
    | false =>
      rw [hal] at hbie
      cases hla : lateAt l0 (Region.before ops) i with
      | none => rw [hla] at hbie; simp at hbie
      | some y =>
        obtain ⟨_, _, _, _, _, _, _, _, hall⟩ := lateAt_inv hla
        rcases hall j oj0 hj0 hpj hne with e | ⟨e, e'⟩
        · exact .inl e
        · exact .inr ⟨e, y, rfl, e'⟩
  have tmOf : ∀ (ρ' : Mp) (v' : Value), Ext ρ ρ' → VRel ρ' (vs k) v' → LRel ρ' (foldT l vs (st 0).tmps (ins S k) ops.size) (a.put oc.dst v').tmps.toList := by
    intro ρ' v' hx hv
    rw [hins, hdst, (compOper_dst hy2).1]
    exact put_rel_tmps (htm.ext hx) hv _
  have dfOf : ∀ v', (a.put oc.dst v').defers = a0.defers := fun v' => by rw [defers_put]; exact hdf
  -- what leaves the heap as it is
  have same : OneStep R lim o (foldT l vs (st 0).tmps S ops.size) (st q).H (vs k) (st q).H → (q < ops.size → q ≠ k) → (o.op.pure = false → k < q) → wpOpIn F m P ops Q k K a w := by
    intro hone2 hqk hkq
    refine one_wp hF h.calls hrel hl hlq (H' := (st q).H) (fun b g1 g2 => by omega) htm hoc hy2 (b := o.bar) (hbarrec hone2) ?_
    intro ρ' v' w' hp' hv
    replace hp' : Post P n0 (effLim lim o (st q).H) ρ (st q).H w ρ' (st q).H w' := hp'
    have hnone : ∀ b, ρ b = none → ρ' b = none := by
      intro b hb
      cases hb' : ρ' b with
      | none => rfl
      | some L => have := hp'.new b L hb hb'; omega
    refine hK ρ' _ w' ⟨hclosed, tmOf ρ' v' hp'.ext hv, dfOf v', ⟨q, hq, fun i hi hw => ?_, fun hlt => ⟨(hq2 hlt).1, ?_⟩, fun i hi hs hpi => ?_, hp'.rel⟩, fun i hi hs b g1 g2 => ?_, ?_⟩
    · unfold ins; split
      · rfl
      · exact hq1 i hi hw
    · unfold ins
      rw [if_neg (hqk hlt)]
      exact (hq2 hlt).2
    · by_cases e : i = k
      · subst e; exact hkq (hpi o ho)
      · unfold ins at hs; rw [if_neg e] at hs; exact hq3 i hi hs hpi
    · have hs' : S i = false := by
        unfold ins at hs; split at hs
        · simp at hs
        · exact hs
      exact hnone b (hfresh i hi hs' b g1 g2)
    · exact hfr.step (lim' := effLim lim o (st q).H) (effLim_le hlq o).1 hf0 (h.mono (i := 0) q (by omega) hq) (h.mono (i := q) ops.size hq (Nat.le_refl _)) hp'
  cases hp : o.op.pure with
  | true =>
    -- it looks at values alone
    obtain ⟨hHk, hany⟩ := hone'.pure hp
    refine same (hany lim (st q).H) (fun hlt => ?_) (fun e => by rw [hp] at e; simp at e)
    rintro rfl
    obtain ⟨⟨oq, hoq, hpq, _⟩, hsq⟩ := hq2 hlt
    rw [ho] at hoq; simp at hoq; subst hoq; rw [hp] at hpq; simp at hpq
  | false =>
    cases hb : o.bar with
    | true =>
      -- it looks at memory, and makes what is new
      have hkq : k < q := by
        rcases Nat.lt_or_ge k q with g | g
        · exact g
        · exfalso
          have hne : k ≠ q := by
            rintro rfl
            obtain ⟨⟨oq, hoq, _, hbq⟩, _⟩ := hq2 hk
            rw [ho] at hoq; simp at hoq; subst hoq; rw [hb] at hbq; simp at hbq
          have hqk : q < k := by omega
          obtain ⟨⟨oq, hoq, hpq, hbq⟩, hsq⟩ := hq2 (by omega)
          rcases wr q oq hoq hpq hbq k o0 ho0 (by rw [← hop]; exact hp) (by omega) with this | ⟨this, _⟩
          · rw [ready_bef hcl hready (bitAt_bef this hqk)] at hsq
            simp at hsq
          · omega
      -- a writer in between is a store that is not ordered against this load
      have between : ∀ i, k ≤ i → i < q → Wr l i → k < i ∧ ∃ y, lateAt l0 (Region.before ops) i = some y ∧ bitAt (Region.before ops) i k = false ∧ (o0.op.isLoad = true ∨ (o0.op.isNew = true ∧ ∃ t, y = .tmp t)) := by
        intro i h1 h2 hw
        have hsi := hq1 i h2 hw
        obtain ⟨oi, hoi, hpi, hbi⟩ := hw
        by_cases e : i = k
        · subst e; rw [hS] at hsi; simp at hsi
        · have hno : bitAt (Region.before ops) i k = false := by
            cases hbt : bitAt (Region.before ops) i k with
            | false => rfl
            | true =>
              have hbef := bitAt_bef' hbt (by omega : k < i)
              rw [hcl.bef hbef hsi] at hS; simp at hS
          rcases wr i oi hoi hpi hbi k o0 ho0 (by rw [← hop]; exact hp) (Ne.symm e) with this | ⟨g1, y, g3, g2⟩
          · rw [this] at hno; simp at hno
          · exact ⟨g1, y, g3, hno, g2⟩
      -- what nothing in the region writes stays
      have hfix : ∀ (t : Nat), (∀ o' ∈ l0, o'.dst ≠ some t) → ∀ j, k ≤ j → j ≤ ops.size → (st j).tmps[t]? = (st k).tmps[t]? := by
        intro t ht j
        induction j with
        | zero => intro a _; have : k = 0 := by omega
                  subst this; rfl
        | succ j ih =>
          intro a c
          by_cases e : k = j + 1
          · rw [e]
          · obtain ⟨oj, hoj⟩ : ∃ oj, l[j]? = some oj := ⟨l[j]'(by rw [h.ok.len]; omega), List.getElem?_eq_getElem _⟩
            obtain ⟨oj0, hoj0, hoje, _⟩ := h.ok.bars j oj hoj
            rw [(h.one j oj hoj).2.1, ← ih (by omega) (by omega)]
            have hd : oj.dst ≠ some t := by
              have := ht oj0 (List.mem_of_getElem? hoj0)
              rw [hoje]; exact this
            unfold putT
            cases hdd : oj.dst with
            | none => rfl
            | some d =>
              simp only
              rw [List.getElem?_set_ne]
              rintro rfl; exact hd hdd
      by_cases hld : o0.op.isLoad = true
      case pos =>
        obtain ⟨g, ad, hopl⟩ : ∃ g ad, o.op = .load g ad := by
          rw [hop]
          cases hx : o0.op <;> rw [hx] at hld <;> simp [Aop.isLoad] at hld
          exact ⟨_, _, rfl⟩
        have hone3 : OneStep R lim o (st k).tmps (st q).H (vs k) (st q).H := by
          rcases hone with ⟨hw, hst⟩ | ⟨hw, hv, hH⟩
          · refine .inl ⟨hw, ?_⟩
            rw [hopl] at hst ⊢
            simp only [Ahs.step] at hst ⊢
            obtain ⟨h5, h6⟩ := val_some hst
            have hcl0 := hclr hw
            -- the block that it looks at
            have hld2 : aload (st q).H g (St.ev (st k).tmps ad) = some (vs k) := by
              obtain ⟨b, off, hptr, cs, hcs⟩ := aload_inv h5
              have hlt := Heap.get_lt (Heap.cells_eq.1 hcs)
              have hkeepB : ∀ j, k ≤ j → j ≤ q → (st j).H.get b = (st k).H.get b := by
                intro j
                induction j with
                | zero => intro a _; have : k = 0 := by omega
                          subst this; rfl
                | succ j ih =>
                  intro a c
                  by_cases e : k = j + 1
                  · rw [e]
                  · have ihj := ih (by omega) (by omega)
                    obtain ⟨oj, hoj⟩ : ∃ oj, l[j]? = some oj := ⟨l[j]'(by rw [h.ok.len]; omega), List.getElem?_eq_getElem _⟩
                    have hnj := h.mono (i := k) j (by omega) (by omega)
                    have h1 := (h.one j oj hoj).1
                    cases hpj : oj.op.pure with
                    | true => rw [(h1.pure hpj).1]; exact ihj
                    | false =>
                      cases hbj : oj.bar with
                      | true =>
                        have := (h1.keep h.keeps (h.mono1 j (by omega))).2 b (by unfold effLim; rw [hbj]; simp only [if_true]; omega)
                        rw [this]; exact ihj
                      | false =>
                        obtain ⟨g1, y, g3, g4, _⟩ := between j (by omega) (by omega) ⟨oj, hoj, hpj, hbj⟩
                        obtain ⟨oj0, n0', aj, x0, hoj0, hopj, hroot, hnowr, _⟩ := lateAt_inv g3
                        obtain ⟨oj0', hoj0', hoje, _⟩ := h.ok.bars j oj hoj
                        rw [hoj0] at hoj0'; simp at hoj0'; subst hoj0'
                        have hopj' : oj.op = .store n0' aj x0 := by rw [hoje]; exact hopj
                        rcases h1 with ⟨_, hst1⟩ | ⟨_, _, hH1⟩
                        · rw [hopj'] at hst1
                          simp only [Ahs.step, Option.map_eq_some_iff] at hst1
                          obtain ⟨H1, hs1, hs2⟩ := hst1
                          simp at hs2; obtain ⟨_, rfl⟩ := hs2
                          -- where the store goes
                          have hy : St.ev (st j).tmps y = St.ev (st k).tmps y := by
                            cases y with
                            | val v => rfl
                            | tmp t => simp only [St.ev, List.getD_eq_getElem?_getD]; rw [hfix t (hnowr t rfl) j (by omega) (by omega)]
                          have hmem : y ∈ o.apart := by
                            rw [hapart hld]
                            exact apartOf_mem g3 g1 g4
                          have hap : apartB (St.ev (st k).tmps ad) (St.ev (st k).tmps y) = true := by
                            unfold AOper.clear at hcl0
                            rw [hopl] at hcl0
                            cases hap0 : o.apart with
                            | nil => rw [hap0] at hmem; simp at hmem
                            | cons y0 ys =>
                              rw [hap0] at hcl0 hmem
                              simp only [List.all_eq_true] at hcl0
                              exact hcl0 y hmem
                          rw [hptr] at hap
                          unfold astore at hs1
                          split at hs1
                          case h_2 => simp at hs1
                          rename_i b2 o2 hptr2
                          obtain ⟨o3, hptr3⟩ := h.root 8 j aj y hroot (by omega) b2 o2 hptr2
                          rw [hy] at hptr3
                          rw [hptr3] at hap
                          simp [apartB, blkOf] at hap
                          split at hs1
                          case h_2 => simp at hs1
                          split at hs1 <;> simp at hs1
                          rw [← hs1, Heap.get_set_other _ _ _ _ hap]
                          exact ihj
                        · rw [hH1]; exact ihj
              have hcq : (st q).H.cells b = (st k).H.cells b := by
                unfold Heap.cells; rw [hkeepB q (by omega) (Nat.le_refl _)]
              rw [hptr] at h5 ⊢
              rw [aload_congr hcq]; exact h5
            rw [hld2]; rfl
          · exact .inr ⟨hw, hv, rfl⟩
        exact same (hone3.congr look) (fun _ => by omega) (fun _ => hkq)
      have hmq := h.mono (i := k + 1) q (by omega) hq
      -- it is done on a heap that stands as the text's does there, but for what was written since
      have tail : ∀ Hk Hk1 : Heap, Hk.next = (st k).H.next → Hk1.next = (st (k + 1)).H.next → (∀ b x, Hk.get b = some x → (st q).H.get b = some x) → (∀ b, b < Hk1.next → (st q).H.get b = Hk1.get b) → OneStep R lim o (foldT l vs (st 0).tmps S ops.size) Hk (vs k) Hk1 → wpOpIn F m P ops Q k K a w := by
        intro Hk Hk1 hnk hnk1 hlive hag1 hst1
        have hrelk : Rel P n0 ρ Hk w := by
          refine ⟨fun b L cs hb hx => hrel.row b L cs hb (hlive b _ hx), fun b L es cl hb hx => hrel.map b L es cl hb (hlive b _ hx), fun b L r hb hx => hrel.loop b L r hb (hlive b _ hx), hrel.dom, ?_⟩
          intro b b' L L' g1 g2 g3 g4 g5 g6 g7 g8
          obtain ⟨x, hx⟩ := Option.isSome_iff_exists.1 g5
          obtain ⟨x', hx'⟩ := Option.isSome_iff_exists.1 g6
          have e1 := hlive b x hx
          have e2 := hlive b' x' hx'
          exact hrel.excl b b' L L' g1 g2 g3 g4 (by rw [e1]; rfl) (by rw [e2]; rfl) (by rw [e1, ← hx]; exact g7) (by rw [e2, ← hx']; exact g8)
        have hfk : ∀ b, Hk.next ≤ b → b < Hk1.next → ρ b = none := fun b g1 g2 => hfresh k hk hS b (by omega) (by omega)
        refine one_wp hF h.calls hrelk hl (by omega : lim ≤ Hk.next) hfk htm hoc hy2 (b := o.bar) (hbarrec hst1) ?_
        intro ρ' v' w' hp' hv
        replace hp' : Post P n0 (effLim lim o Hk) ρ Hk w ρ' Hk1 w' := hp'
        have hlimeq : effLim lim o Hk = Hk.next := by unfold effLim; rw [hb]; rfl
        rw [hlimeq] at hp'
        have hframe : ∀ r, r < w.heap.size → w'.heap[r]? = w.heap[r]? := fun r hr => hp'.frame r hr fun b L g1 g2 => by omega
        have hold : ∀ b L, Hk1.next ≤ b → ρ' b = some L → ρ b = some L := by
          intro b L g1 g2
          cases hb0 : ρ b with
          | none => have := hp'.new b L hb0 g2; omega
          | some L0 => have := hp'.ext b L0 hb0; rw [g2] at this; simp at this; rw [this]
        have hnewblk : ∀ b L, b < Hk1.next → ρ' b = some L → ρ b = some L ∨ w.heap.size ≤ L.blk := by
          intro b L g1 g2
          cases hb0 : ρ b with
          | none =>
            rcases (hp'.new b L hb0 g2).2.2 with q | ⟨b0, L0, q1, q2, _⟩
            · exact .inr q
            · omega
          | some L0 => have := hp'.ext b L0 hb0; rw [g2] at this; simp at this; rw [this]; exact .inl rfl
        have hrel' : Rel P n0 ρ' (st q).H w' := by
          refine ⟨?_, ?_, ?_, hp'.rel.dom, ?_⟩
          · intro b L cs e1 e2
            rcases Nat.lt_or_ge b Hk1.next with g | g
            · rw [hag1 b g] at e2; exact hp'.rel.row b L cs e1 e2
            · have e3 := hold b L g e1
              obtain ⟨c, ⟨t, fr, r1, r2, r3⟩, r4, r5⟩ := hrel.row b L cs e3 e2
              exact ⟨c, ⟨t, fr, by rw [hframe _ (hrel.dom b L e3)]; exact r1, r2, r3⟩, r4, r5.ext hp'.ext⟩
          · intro b L es cl e1 e2
            rcases Nat.lt_or_ge b Hk1.next with g | g
            · rw [hag1 b g] at e2; exact hp'.rel.map b L es cl e1 e2
            · have e3 := hold b L g e1
              obtain ⟨es', r1, r2⟩ := hrel.map b L es cl e3 e2
              exact ⟨es', by rw [hframe _ (hrel.dom b L e3)]; exact r1, r2.ext hp'.ext⟩
          · intro b L r e1 e2
            rcases Nat.lt_or_ge b Hk1.next with g | g
            · rw [hag1 b g] at e2; exact hp'.rel.loop b L r e1 e2
            · have e3 := hold b L g e1
              obtain ⟨r', r1, r2⟩ := hrel.loop b L r e3 e2
              exact ⟨r', by rw [hframe _ (hrel.dom b L e3)]; exact r1, r2.ext hp'.ext⟩
          · intro b1 b2 L1 L2 g1 g2 g3 g4 g5 g6 g7 g8
            rcases Nat.lt_or_ge b1 Hk1.next with c1 | c1 <;> rcases Nat.lt_or_ge b2 Hk1.next with c2 | c2
            · rw [hag1 b1 c1] at g5 g7; rw [hag1 b2 c2] at g6 g8
              exact hp'.rel.excl b1 b2 L1 L2 g1 g2 g3 g4 g5 g6 g7 g8
            · have e2 := hold b2 L2 c2 g4
              rcases hnewblk b1 L1 c1 g3 with e1 | e1
              · exact hrel.excl b1 b2 L1 L2 g1 g2 e1 e2 g5 g6 g7 g8
              · have := hrel.dom b2 L2 e2; omega
            · have e1 := hold b1 L1 c1 g3
              rcases hnewblk b2 L2 c2 g4 with e2 | e2
              · exact hrel.excl b1 b2 L1 L2 g1 g2 e1 e2 g5 g6 g7 g8
              · have := hrel.dom b1 L1 e1; omega
            · exact hrel.excl b1 b2 L1 L2 g1 g2 (hold b1 L1 c1 g3) (hold b2 L2 c2 g4) g5 g6 g7 g8
        refine hK ρ' _ w' ⟨hclosed, tmOf ρ' v' hp'.ext hv, dfOf v', ⟨q, hq, fun i hi hw => ?_, fun hlt => ⟨(hq2 hlt).1, ?_⟩, fun i hi hs hpi => ?_, hrel'⟩, fun i hi hs b g1 g2 => ?_, ?_⟩
        · unfold ins; split
          · rfl
          · exact hq1 i hi hw
        · unfold ins; rw [if_neg (by omega)]; exact (hq2 hlt).2
        · by_cases e : i = k
          · omega
          · unfold ins at hs; rw [if_neg e] at hs; exact hq3 i hi hs hpi
        · have hik : i ≠ k := by rintro rfl; unfold ins at hs; simp at hs
          have hs' : S i = false := by unfold ins at hs; rw [if_neg hik] at hs; exact hs
          cases hb' : ρ' b with
          | none => rfl
          | some L =>
            exfalso
            have hn := hfresh i hi hs' b g1 g2
            have := hp'.new b L hn hb'
            rcases Nat.lt_or_ge i k with c | c
            · have := h.mono (i := i + 1) k (by omega) (by omega); omega
            · have := h.mono (i := k + 1) i (by omega) (by omega); omega
        · exact hfr.step (lim' := Hk.next) (by omega) hf0 (by have := h.mono (i := 0) k (by omega) (by omega); omega) (by have := h.mono (i := k + 1) ops.size (by omega) (Nat.le_refl _); omega) hp'
      by_cases hnew : o0.op.isNew = true
      case pos =>
        rcases hone' with ⟨hw, hst⟩ | ⟨hw, hv, hH⟩
        case inr => exact same (.inr ⟨hw, hv, rfl⟩) (fun _ => by omega) (fun _ => hkq)
        case inl =>
          obtain ⟨cs, hpush, hstep⟩ := step_new (by rw [hop]; exact hnew) hst
          have hn1 : (st (k + 1)).H.next = (st k).H.next + 1 := by rw [hpush]; rfl
          have hnq := h.mono (i := k) q (by omega) hq
          -- the new block stays as it is made
          have hkeepN : ∀ j, k + 1 ≤ j → j ≤ q → (st j).H.get (st k).H.next = some (.cells cs) := by
            intro j
            induction j with
            | zero => intro a; omega
            | succ j ih =>
              intro a c
              by_cases e : k = j
              · subst e; rw [hpush]; exact Heap.get_push_new _ _
              · have ihj := ih (by omega) (by omega)
                obtain ⟨oj, hoj⟩ : ∃ oj, l[j]? = some oj := ⟨l[j]'(by rw [h.ok.len]; omega), List.getElem?_eq_getElem _⟩
                have hnj := h.mono (i := k + 1) j (by omega) (by omega)
                have h1 := (h.one j oj hoj).1
                cases hpj : oj.op.pure with
                | true => rw [(h1.pure hpj).1]; exact ihj
                | false =>
                  cases hbj : oj.bar with
                  | true =>
                    have := (h1.keep h.keeps (h.mono1 j (by omega))).2 (st k).H.next (by unfold effLim; rw [hbj]; simp only [if_true]; omega)
                    rw [this]; exact ihj
                  | false =>
                    obtain ⟨g1, y, g3, g4, g5⟩ := between j (by omega) (by omega) ⟨oj, hoj, hpj, hbj⟩
                    obtain ⟨t, rfl⟩ : ∃ t, y = .tmp t := by
                      rcases g5 with g5 | ⟨_, g5⟩
                      · exact absurd g5 hld
                      · exact g5
                    obtain ⟨oj0, n0', aj, x0, hoj0, hopj, hroot, hnowr, _⟩ := lateAt_inv g3
                    obtain ⟨oj0', hoj0', hoje, _⟩ := h.ok.bars j oj hoj
                    rw [hoj0] at hoj0'; simp at hoj0'; subst hoj0'
                    have hopj' : oj.op = .store n0' aj x0 := by rw [hoje]; exact hopj
                    rcases h1 with ⟨_, hst1⟩ | ⟨_, _, hH1⟩
                    · rw [hopj'] at hst1
                      simp only [Ahs.step, Option.map_eq_some_iff] at hst1
                      obtain ⟨H1, hs1, hs2⟩ := hst1
                      simp at hs2; obtain ⟨_, rfl⟩ := hs2
                      unfold astore at hs1
                      split at hs1
                      case h_2 => simp at hs1
                      rename_i b2 o2 hptr2a
                      obtain ⟨o3, hptr2⟩ := h.root 8 j aj (.tmp t) hroot (by omega) b2 o2 hptr2a
                      -- it is a pointer that the world knows
                      have hsome : (foldT l vs (st 0).tmps S ops.size)[t]? = some (.ptr (some (b2, o3))) := by
                        have hun : ∀ j', j' < ops.size → ∀ o', l[j']? = some o' → o'.dst = some t → S j' = decide (j' < k) := by
                          intro j' _ o' ho' hd'
                          obtain ⟨o0', ho0', hoe', _⟩ := h.ok.bars j' o' ho'
                          exact absurd (by rw [← hd', hoe']) (hnowr t rfl o0' (List.mem_of_getElem? ho0'))
                        rw [foldT_agree l vs (st 0).tmps t S (fun j => decide (j < k)) ops.size hun,
                          foldT_past l vs (st 0).tmps (fun j => decide (j < k)) k ops.size (by omega) (fun j a _ => by simp; omega),
                          foldT_agree l vs (st 0).tmps t (fun j => decide (j < k)) (fun _ => true) k (fun j hj _ _ _ => by simp [hj]), full k (by omega)]
                        rw [← hfix t (hnowr t rfl) j (by omega) (by omega)]
                        simp only [St.ev, List.getD_eq_getElem?_getD] at hptr2
                        cases hg : (st j).tmps[t]? with
                        | none => rw [hg] at hptr2; simp [und] at hptr2
                        | some z => rw [hg] at hptr2; simp at hptr2; rw [hptr2]
                      obtain ⟨v', _, hv'⟩ := htm.get hsome
                      have hne : (st k).H.next ≠ b2 := by
                        intro e
                        cases hv' with
                        | ptr hb2 => rw [hfresh k hk hS b2 (by omega) (by omega)] at hb2; simp at hb2
                      split at hs1
                      case h_2 => simp at hs1
                      split at hs1 <;> simp at hs1
                      rw [← hs1, Heap.get_set_other _ _ _ _ hne]
                      exact ihj
                    · rw [hH1]; exact ihj
          obtain ⟨Hx, hxn, hx⟩ : ∃ Hx : Heap, Hx.next = (st k).H.next ∧ ∀ b, b < (st k).H.next → Hx.get b = (st q).H.get b :=
            ⟨Heap.mk (st k).H.next (st q).H.tr, rfl, fun b hb => by unfold Heap.get; rw [if_pos hb, if_pos (by omega)]⟩
          refine tail Hx (Hx.push (.cells cs)) hxn (by rw [Heap.next_push]; omega) (fun b x hb => by rw [← hx b (by have := Heap.get_lt hb; omega)]; exact hb) ?_ (.inl ⟨hw, hstep _ _ hxn⟩)
          intro b hb
          rw [Heap.next_push] at hb
          by_cases e : b = Hx.next
          · subst e
            rw [Heap.get_push_new, hxn, hkeepN q (by omega) (Nat.le_refl _)]
          · rw [Heap.get_push_old _ _ _ e, hx b (by omega)]
      have hnw : ∀ i, k ≤ i → i < q → ¬ Wr l i := fun i h1 h2 hw => by
        obtain ⟨_, y, _, _, g⟩ := between i h1 h2 hw
        rcases g with g | ⟨g, _⟩
        · exact hld g
        · exact hnew g
      have hag := h.agree (i := k) q (by omega) hq hnw
      have hag1 := h.agree (i := k + 1) q (by omega) hq (fun i a c => hnw i (by omega) c)
      exact tail (st k).H (st (k + 1)).H rfl rfl (fun b x hx => by rw [hag b (Heap.get_lt hx)]; exact hx) hag1 hone'
    | false =>
      -- it writes: all that comes to memory ahead of it has been done, and nothing behind it
      have hwk : Wr l k := ⟨o, ho, hp, hb⟩
      have hkq : k = q := by
        rcases Nat.lt_trichotomy k q with g | g | g
        · have := hq1 k g hwk; rw [hS] at this; simp at this
        · exact g
        · exfalso
          obtain ⟨⟨oq, hoq, hpq, hbq⟩, hsq⟩ := hq2 (by omega)
          rcases wr q oq hoq hpq hbq k o0 ho0 (by rw [← hop]; exact hp) (by omega) with this | ⟨this, _⟩
          · rw [ready_bef hcl hready (bitAt_bef this g)] at hsq
            simp at hsq
          · omega
      subst hkq
      obtain ⟨q', h1, h2, h3, h4⟩ := nextW (Wr l) ops.size (ops.size - (k + 1)) (k + 1) (by omega)
      have hag := h.agree (i := k + 1) q' h1 h2 h3
      have hfk : ∀ b, (st k).H.next ≤ b → b < (st (k + 1)).H.next → ρ b = none := hfresh k hk hS
      refine one_wp hF h.calls hrel hl hlk hfk htm hoc hy2 (b := o.bar) (hbarrec hone') ?_
      intro ρ' v' w' hp' hv
      replace hp' : Post P n0 (effLim lim o (st k).H) ρ (st k).H w ρ' (st (k + 1)).H w' := hp'
      have hlimeq : effLim lim o (st k).H = lim := by unfold effLim; rw [hb]; rfl
      rw [hlimeq] at hp'
      -- nothing that comes to memory behind it has been done
      have hlater : ∀ i, k < i → i < ops.size → (∀ oi, l[i]? = some oi → oi.op.pure = false) → S i = false := by
        intro i g1 g2 g3
        cases hs : S i with
        | false => rfl
        | true => have := hq3 i g2 hs g3; omega
      have hlive : ∀ b L x, ρ' b = some L → (st q').H.get b = some x → (st (k + 1)).H.get b = some x := by
        intro b L x hb' hx
        have hlt := Heap.get_lt hx
        rcases Nat.lt_or_ge b (st (k + 1)).H.next with g | g
        · rw [← hag b g]; exact hx
        · exfalso
          -- the operation in whose range b lies
          have find : ∀ j, k + 1 ≤ j → j ≤ q' → b < (st j).H.next → ∃ i, k + 1 ≤ i ∧ i < q' ∧ (st i).H.next ≤ b ∧ b < (st (i + 1)).H.next := by
            intro j
            induction j with
            | zero => intro a; omega
            | succ j ih =>
              intro a1 a2 a3
              by_cases e : k + 1 = j + 1
              · rw [← e] at a3; omega
              · rcases Nat.lt_or_ge b (st j).H.next with c | c
                · exact ih (by omega) (by omega) c
                · exact ⟨j, by omega, by omega, c, a3⟩
          obtain ⟨i, i1, i2, i3, i4⟩ := find q' h1 (Nat.le_refl _) hlt
          obtain ⟨oi, hoi⟩ : ∃ oi, l[i]? = some oi := ⟨l[i]'(by rw [h.ok.len]; omega), List.getElem?_eq_getElem _⟩
          have hpi : oi.op.pure = false := by
            cases hpi : oi.op.pure with
            | false => rfl
            | true =>
              have := ((h.one i oi hoi).1.pure hpi).1
              rw [this] at i4; omega
          have hsi : S i = false := hlater i (by omega) (by omega) fun oi' e => by rw [hoi] at e; simp at e; subst e; exact hpi
          have hn := hfresh i (by omega) hsi b i3 i4
          have := hp'.new b L hn hb'
          omega
      have hrel' : Rel P n0 ρ' (st q').H w' := by
        refine ⟨fun b L cs e1 e2 => hp'.rel.row b L cs e1 (hlive b L _ e1 e2), fun b L es cl e1 e2 => hp'.rel.map b L es cl e1 (hlive b L _ e1 e2), fun b L r e1 e2 => hp'.rel.loop b L r e1 (hlive b L _ e1 e2), hp'.rel.dom, ?_⟩
        intro b b' L L' g1 g2 g3 g4 g5 g6 g7 g8
        obtain ⟨x, hx⟩ := Option.isSome_iff_exists.1 g5
        obtain ⟨x', hx'⟩ := Option.isSome_iff_exists.1 g6
        have e1 := hlive b L x g3 hx
        have e2 := hlive b' L' x' g4 hx'
        exact hp'.rel.excl b b' L L' g1 g2 g3 g4 (by rw [e1]; rfl) (by rw [e2]; rfl) (by rw [e1, ← hx]; exact g7) (by rw [e2, ← hx']; exact g8)
      refine hK ρ' _ w' ⟨hclosed, tmOf ρ' v' hp'.ext hv, dfOf v', ⟨q', h2, fun i hi hw => ?_, fun hlt => ⟨h4 hlt, ?_⟩, fun i hi hs hpi => ?_, hrel'⟩, fun i hi hs b g1 g2 => ?_, ?_⟩
      · unfold ins; split
        · rfl
        · rename_i hne
          rcases Nat.lt_or_ge i k with c | c
          · exact hq1 i c hw
          · exact absurd hw (h3 i (by omega) hi)
      · obtain ⟨oq, hoq, hpq, _⟩ := h4 hlt
        unfold ins; rw [if_neg (by omega)]
        exact hlater q' (by omega) hlt fun oi e => by rw [hoq] at e; simp at e; subst e; exact hpq
      · by_cases e : i = k
        · omega
        · unfold ins at hs; rw [if_neg e] at hs
          have := hq3 i hi hs hpi; omega
      · have hik : i ≠ k := by rintro rfl; unfold ins at hs; simp at hs
        have hs' : S i = false := by unfold ins at hs; rw [if_neg hik] at hs; exact hs
        cases hb' : ρ' b with
        | none => rfl
        | some L =>
          exfalso
          have hn := hfresh i hi hs' b g1 g2
          have := hp'.new b L hn hb'
          rcases Nat.lt_or_ge i k with c | c
          · have := h.mono (i := i + 1) k (by omega) (by omega); omega
          · have := h.mono (i := k + 1) i (by omega) (by omega); omega
      · exact hfr.step (lim' := lim) (Nat.le_refl _) hf0 (h.mono (i := 0) k (by omega) (by omega)) (h.mono (i := k + 1) ops.size (by omega) (Nat.le_refl _)) hp'

end
end Go.Ahs
