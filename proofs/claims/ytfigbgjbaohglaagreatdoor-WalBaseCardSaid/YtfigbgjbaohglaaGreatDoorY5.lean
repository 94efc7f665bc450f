/- Parts of the proof. -/
import Derived.Test.YtfigbgjbaohglaaGreatDoorY4
set_option linter.unusedSimpArgs false
set_option linter.unusedVariables false
set_option linter.unusedSectionVars false
namespace Go.au
variable [Gl]
section
variable {P : Program} {n0 lim : Nat} {R : aq}
theorem gI.congr {o : aY} {T T' : List aa} {H H' : ah} {v : aa} (h : gI R lim o T H v H') (hs : ∀ t ∈ o.reads, T'[t]? = T[t]?) : gI R lim o T' H v H' := by
  have hw : eF T' o.guard = eF T o.guard := by
    unfold eF
    cases hg : o.guard with
    | none => rfl
    | some g =>
      obtain ⟨t, want⟩ := g
      simp only
      rw [hs t (by simp [aY.reads, hg])]
  have he : ∀ x ∈ o.op.zk, St.ev T x = St.ev T' x := by
    intro x hx
    cases x with
    | val v => rfl
    | tmp t =>
      simp only [St.ev, List.getD_eq_getElem?_getD]
      rw [hs t (by
        simp only [aY.reads, List.mem_append, List.mem_filterMap]
        exact .inl ⟨.tmp t, hx, rfl⟩)]
  unfold gI at *
  rw [hw]
  rw [Sw he] at h
  exact h
theorem gI.pure {o : aY} {T : List aa} {H H' : ah} {v : aa} (h : gI R lim o T H v H') (hp : o.op.pure = true) : H' = H ∧ ∀ (dm : Nat) (H2 : ah), gI R dm o T H2 v H2 := by
  rcases h with ⟨hw, h⟩ | ⟨hw, rfl, rfl⟩
  · obtain ⟨e, h2⟩ := Jq hp h
    exact ⟨e, fun dm H2 => .inl ⟨hw, h2 _ H2⟩⟩
  · exact ⟨rfl, fun _ _ => .inr ⟨hw, rfl, rfl⟩⟩
structure zW (P : Program) (ops : Array Oper) (l0 l : List aY) : Prop where
  comp : fF (qa P ops) ops.toList = some l0
  len : l.length = ops.size
  bars : ∀ (i : Nat) (o : aY), l[i]? = some o → ∃ o0, l0[i]? = some o0 ∧ o = { o0 with cQ := o.cQ, apart := o.apart } ∧ o.cQ = (!o0.op.pure && !alone l0 (Region.before ops) i && !(oo l0 (Region.before ops) i).isSome && !nj l0 (Region.before ops) i) ∧ (o0.op.kE = true → o.apart = zu l0 (Region.before ops) i) ∧ (o0.op.kE = false → o.apart = zw l0 (Region.before ops) i)
  Jy : ∀ (i : Nat) (o : Oper) (e : Edge), ops[i]? = some o → e ∈ o.after → Region.binds .any e = true → e.on < i
  SN : zq l0 (Region.before ops) = true
theorem zW.of {ops : Array Oper} {l : List aY} (h : vC P ops true = some l) : ∃ l0, zW P ops l0 l := by
  unfold vC at h
  split at h
  · rename_i l0 hl0
    simp only [Bool.not_true, Bool.false_eq_true, if_false] at h
    split at h <;> simp at h
    rename_i hc
    simp only [Bool.and_eq_true] at hc
    obtain ⟨h1, h2⟩ := hc
    refine ⟨l0, hl0, by rw [← h]; simp [nu hl0], ?_, ?_, h1⟩
    · intro i o ho
      rw [← h, List.getElem?_map, List.getElem?_zipIdx, Option.map_eq_some_iff] at ho
      obtain ⟨⟨o0, j⟩, hj, rfl⟩ := ho
      rw [Option.map_eq_some_iff] at hj
      obtain ⟨o1, h3, h4⟩ := hj
      simp at h4
      obtain ⟨rfl, rfl⟩ := h4
      exact ⟨o1, h3, rfl, by simp, fun e => by simp [e], fun e => by simp [e]⟩
    · intro i o e hi he hb
      rw [List.all_eq_true] at h2
      have hlt : i < ops.size := by
        rcases Nat.lt_or_ge i ops.size with q | q
        · exact q
        · rw [Array.getElem?_eq_none q] at hi; simp at hi
      have hm : (o, i) ∈ ops.toList.zipIdx := by
        rw [List.mk_mem_zipIdx_iff_getElem?]
        simpa using hi
      have := h2 (o, i) hm
      simp only at this
      rw [Array.all_eq_true_iff_forall_mem] at this
      have := this e he
      simpa [hb] using this
  · simp at h
theorem Dc {ops : Array Oper} {i j : Nat} (h : gF (Region.before ops) i j = true) (hij : i < j) : kR ops i j := by
  unfold gF at h
  rw [Nat.max_eq_right (by omega), Nat.min_eq_left (by omega)] at h
  exact Jx ops j i h
theorem Dd {ops : Array Oper} {i j : Nat} (h : gF (Region.before ops) j i = true) (hij : i < j) : kR ops i j := by
  unfold gF at h
  rw [Nat.max_eq_left (by omega), Nat.min_eq_right (by omega)] at h
  exact Jx ops j i h
theorem SO {l : List aY} {b : Array Nat} (h : zq l b = true) {i j : Nat} {oi oj : aY} {d : Nat} (hi : l[i]? = some oi) (hj : l[j]? = some oj) (hij : i ≠ j) (hd : oj.dst = some d)
    (hn : oi.dst = some d ∨ d ∈ oi.reads) : gF b i j = true := by
  unfold zq at h
  rw [List.all_eq_true] at h
  have h1 := h (oj, j) (by rw [List.mk_mem_zipIdx_iff_getElem?]; exact hj)
  simp only [hd] at h1
  rw [List.all_eq_true] at h1
  have h2 := h1 (oi, i) (by rw [List.mk_mem_zipIdx_iff_getElem?]; exact hi)
  simp only [Bool.or_eq_true, beq_iff_eq, Bool.not_eq_true', Bool.or_eq_false_iff] at h2
  rcases h2 with (h2 | h2) | ⟨h2, h3⟩
  · exact absurd h2 hij
  · exact h2
  · rcases hn with hn | hn
    · simp [hn] at h2
    · rw [List.contains_eq_mem] at h3; simp at h3; exact absurd hn h3
theorem SP {l : List aY} {b : Array Nat} {i : Nat} (h : alone l b i = true) {j : Nat} {oj : aY} (hj : l[j]? = some oj) (hp : oj.op.pure = false) (hij : j ≠ i) : gF b i j = true := by
  unfold alone at h
  rw [List.all_eq_true] at h
  have h1 := h (oj, j) (by rw [List.mk_mem_zipIdx_iff_getElem?]; exact hj)
  simp only [hp, Bool.false_or, Bool.or_eq_true, beq_iff_eq] at h1
  exact h1.resolve_left hij
theorem SQ {H : ah} {g : Option Nat} {x v : aa} (h : aB H g x = some v) : ∃ b o, x = .ptr (some (b, o)) ∧ ∃ cs, H.cells b = some cs := by
  unfold aB at h
  split at h
  case h_2 => simp at h
  rename_i b o
  refine ⟨b, o, rfl, ?_⟩
  cases hc : H.cells b with
  | none => rw [hc] at h; simp at h
  | some cs => exact ⟨cs, rfl⟩
theorem SR {H H' : ah} {g : Option Nat} {b o : Nat} (h : H'.cells b = H.cells b) : aB H' g (.ptr (some (b, o))) = aB H g (.ptr (some (b, o))) := by
  simp only [aB, h]
theorem vW {l : List aY} : ∀ (f k : Nat) (a : aP) (y : aP), rootOf l f k a = some y → ∀ t, y = .tmp t → ∀ o' ∈ l, o'.dst ≠ some t
  | 0, k, a, y, h => by simp [rootOf] at h
  | f + 1, k, .val v, y, h => by
    simp [rootOf] at h; subst h
    intro t e; simp at e
  | f + 1, k, .tmp t, y, h => by
    unfold rootOf at h
    split at h
    · rename_i hu
      simp at h; subst h
      rintro t' e o' ho' e2
      simp at e; subst e
      simp only [Is, List.all_eq_true] at hu
      have := hu o' ho'
      rw [e2] at this; simp at this
    · split at h
      · split at h
        · split at h
          · split at h
            · exact vW f _ _ y h
            · exact vW f _ _ y h
            · exact vW f _ _ y h
            · simp at h
          · simp at h
        · simp at h
      · simp at h
theorem vX {l : List aY} {b : Array Nat} {k : Nat} {y : aP} (h : oo l b k = some y) : ∃ o n a x, l[k]? = some o ∧ o.op = .store n a x ∧ rootOf l 8 k a = some y ∧
    (∀ t, y = .tmp t → ∀ o' ∈ l, o'.dst ≠ some t) ∧ ∀ (j : Nat) (oj : aY), l[j]? = some oj → oj.op.pure = false → j ≠ k → gF b k j = true ∨ (j < k ∧ (oj.op.kE = true ∨ (oj.op.kF = true ∧ ∃ t, y = .tmp t))) := by
  unfold oo at h
  split at h
  case h_2 => simp at h
  rename_i o ho
  split at h
  case h_2 => simp at h
  rename_i n a x hop
  split at h
  case h_2 => simp at h
  rename_i y0 hroot
  split at h
  case isFalse => simp at h
  rename_i hc
  simp at h; subst h
  refine ⟨o, n, a, x, ho, hop, hroot, vW 8 k a _ hroot, ?_⟩
  intro j oj hj hp hne
  rw [List.all_eq_true] at hc
  have := hc (oj, j) (by rw [List.mk_mem_zipIdx_iff_getElem?]; exact hj)
  simp only [hp, Bool.false_or, Bool.or_eq_true, beq_iff_eq, Bool.and_eq_true, decide_eq_true_eq] at this
  rcases this with (h1 | h1) | ⟨h1, h2⟩
  · exact absurd h1 hne
  · exact .inl h1
  · refine .inr ⟨h1, ?_⟩
    rcases h2 with h2 | ⟨h2, h3⟩
    · exact .inl h2
    · refine .inr ⟨h2, ?_⟩
      cases y0 with
      | tmp t => exact ⟨t, rfl⟩
      | val v => simp [aP.It] at h3
theorem SS {x y : aa} (h : vw x y = true) : x = y := by
  unfold vw at h
  split at h <;> simp_all
theorem Jz : ∀ {xs ys : List aa}, pY xs ys = true → xs = ys
  | [], [], _ => rfl
  | x :: xs, y :: ys, h => by
    simp only [pY, Bool.and_eq_true] at h
    rw [SS h.1, Jz h.2]
  | [], y :: ys, h => by simp [pY] at h
  | x :: xs, [], h => by simp [pY] at h
theorem SU {x y : Option dB} (h : pZ x y = true) : x = y := by
  unfold pZ at h
  split at h
  · rw [Jz h]
  · simp at h
theorem De {l : List aY} {b : Array Nat} {k : Nat} (h : nj l b k = true) : ∃ o, l[k]? = some o ∧ o.op.lu = true ∧ ∀ (j : Nat) (oj : aY), l[j]? = some oj → oj.op.pure = false → j ≠ k → gF b k j = true ∨
    (j < k ∧ ∃ g a, oj.op = .load g a ∧ ∀ t, a = .tmp t → ∀ i o2, l[i]? = some o2 → j ≤ i → o2.dst ≠ some t) ∨ (k < j ∧ oj.op.kF = true ∧ oj.guard = none) := by
  unfold nj at h
  split at h
  case h_2 => simp at h
  rename_i o ho
  rw [Bool.and_eq_true] at h
  refine ⟨o, ho, h.1, ?_⟩
  intro j oj hj hp hne
  have h2 := h.2
  rw [List.all_eq_true] at h2
  have := h2 (oj, j) (by rw [List.mk_mem_zipIdx_iff_getElem?]; exact hj)
  simp only [hp, Bool.false_or, Bool.or_eq_true, beq_iff_eq, Bool.and_eq_true, decide_eq_true_eq] at this
  rcases this with ((h1 | h1) | ⟨h1, h3⟩) | h1
  · exact absurd h1 hne
  · exact .inl h1
  · refine .inr (.inl ⟨h1, ?_⟩)
    split at h3
    · rename_i g t hop
      refine ⟨g, _, hop, ?_⟩
      intro t' e i o2 hi hji hd
      simp at e; subst e
      rw [List.all_eq_true] at h3
      have := h3 (o2, i) (by rw [List.mk_mem_zipIdx_iff_getElem?]; exact hi)
      simp only [Bool.or_eq_true, decide_eq_true_eq, Bool.not_eq_true', beq_eq_false_iff_ne] at this
      rcases this with e | e
      · omega
      · exact e hd
    · rename_i g v hop
      exact ⟨g, _, hop, fun t e => by simp at e⟩
    · simp at h3
  · exact .inr (.inr ⟨h1.1.1, h1.1.2, by simpa using h1.2⟩)
theorem SV {l : List aY} {b : Array Nat} {j k : Nat} {oj : aY} {g : Option Nat} {a : aP} (hk : nj l b k = true) (hj : l[j]? = some oj) (hop : oj.op = .load g a) (hjk : j < k) (hb : gF b k j = false) : a ∈ zw l b k := by
  unfold zw
  rw [if_pos hk, List.mem_filterMap]
  refine ⟨(oj, j), by rw [List.mk_mem_zipIdx_iff_getElem?]; exact hj, ?_⟩
  simp [hop, hjk, hb]
theorem SW {l : List aY} {b : Array Nat} {i k : Nat} {y : aP} (hk : oo l b k = some y) (hik : i < k) (hb : gF b k i = false) : y ∈ zu l b i := by
  unfold zu
  rw [List.mem_filterMap]
  obtain ⟨o, _, _, _, ho, _⟩ := vX hk
  have hlt : k < l.length := by
    rcases Nat.lt_or_ge k l.length with g | g
    · exact g
    · rw [List.getElem?_eq_none g] at ho; simp at ho
  exact ⟨k, by simpa using hlt, by simp [hik, hb, hk]⟩
theorem JA {R : aq} {lim : Nat} {ev : aP → aa} {H H1 : ah} {op : bG} {v : aa} (hn : op.kF = true) (h : step R lim ev H op = some (v, H1)) :
    ∃ cs, H1 = H.push (.cells cs) ∧ ∀ (dm : Nat) (H2 : ah), H2.next = H.next → step R dm ev H2 op = some (v, H2.push (.cells cs)) := by
  cases op <;> simp [bG.kF] at hn
  case alloc zero =>
    simp only [au.step, Option.some.injEq, Prod.mk.injEq] at h
    obtain ⟨rfl, rfl⟩ := h
    exact ⟨zero, rfl, fun dm H2 e => by simp only [au.step, e]⟩
  case box x =>
    simp only [au.step] at h
    split at h <;> simp at h
    rename_i hc
    obtain ⟨rfl, rfl⟩ := h
    exact ⟨_, rfl, fun dm H2 e => by simp only [au.step, e]; rw [if_pos hc]⟩
  case buildSlice zero len parts =>
    simp only [au.step, Option.map_eq_some_iff] at h
    obtain ⟨cs, h1, h2⟩ := h
    simp at h2
    obtain ⟨rfl, rfl⟩ := h2
    exact ⟨cs, rfl, fun dm H2 e => by simp only [au.step, e, h1, Option.map_some]⟩
def vY (ops : Array Oper) (S : Nat → Bool) : Prop := ∀ (i : Nat) (o : Oper) (e : Edge), ops[i]? = some o → S i = true → e ∈ o.after → Region.binds .any e = true → S e.on = true
theorem vY.Df {ops : Array Oper} {S : Nat → Bool} (hc : vY ops S) {i j : Nat} (h : kR ops j i) : S i = true → S j = true := by
  induction h with
  | C9 hi he hb => exact fun hs => hc _ _ _ hi hs he hb
  | trans hi he hb _ ih => exact fun hs => ih (hc _ _ _ hi hs he hb)
theorem zX {ops : Array Oper} {S : Nat → Bool} (hc : vY ops S) {k : Nat} (hr : ∀ (o : Oper) (e : Edge), ops[k]? = some o → e ∈ o.after → Region.binds .any e = true → S e.on = true) {j : Nat} (h : kR ops j k) : S j = true := by
  cases h with
  | C9 hi he hb => exact hr _ _ hi he hb
  | trans hi he hb h => exact hc.Df h (hr _ _ hi he hb)
structure jd (P : Program) (R : aq) (lim : Nat) (ops : Array Oper) (l0 l : List aY) (st : Nat → St) (vs : Nat → aa) : Prop where
  ok : zW P ops l0 l
  one : ∀ (i : Nat) (o : aY), l[i]? = some o → gI R lim o (st i).tmps (st i).H (vs i) (st (i + 1)).H ∧ (st (i + 1)).tmps = dc (st i).tmps o.dst (vs i) ∧ (eF (st i).tmps o.guard = true → o.clear (st i).tmps = true ∨ (o.op.lu = true ∧ o.kept (st i).tmps (st i).H (st (i + 1)).H = true))
  keeps : nE R
  calls : qw P R
  SX : lim ≤ (st 0).H.next
variable {ops : Array Oper} {l0 l : List aY} {st : Nat → St} {vs : Nat → aa}
theorem jd.rU (h : jd P R lim ops l0 l st vs) : ∀ i, i ≤ ops.size → lim ≤ (st i).H.next
  | 0, _ => h.SX
  | i + 1, hi => by
    have ih := h.rU i (by omega)
    obtain ⟨o, ho⟩ : ∃ o, l[i]? = some o := ⟨l[i]'(by rw [h.ok.len]; omega), List.getElem?_eq_getElem _⟩
    have := ((h.one i o ho).1.keep h.keeps ih).1
    omega
theorem jd.mono (h : jd P R lim ops l0 l st vs) {i : Nat} : ∀ j, i ≤ j → j ≤ ops.size → (st i).H.next ≤ (st j).H.next
  | 0, hij, _ => by
    have : i = 0 := by omega
    subst this; exact Nat.le_refl _
  | j + 1, hij, hj => by
    by_cases e : i = j + 1
    · subst e; exact Nat.le_refl _
    · have ih := h.mono (i := i) j (by omega) (by omega)
      obtain ⟨o, ho⟩ : ∃ o, l[j]? = some o := ⟨l[j]'(by rw [h.ok.len]; omega), List.getElem?_eq_getElem _⟩
      have := ((h.one j o ho).1.keep h.keeps (h.rU j (by omega))).1
      omega
theorem jd.stay (h : jd P R lim ops l0 l st vs) {t i : Nat} : ∀ j, i ≤ j → j ≤ ops.size → (∀ k, i ≤ k → k < j → ∀ o, l0[k]? = some o → o.dst ≠ some t) → (st j).tmps[t]? = (st i).tmps[t]?
  | 0, hij, _, _ => by
    have : i = 0 := by omega
    subst this; rfl
  | j + 1, hij, hj, hno => by
    by_cases e : i = j + 1
    · rw [e]
    · obtain ⟨oj, fV⟩ : ∃ oj, l[j]? = some oj := ⟨l[j]'(by rw [h.ok.len]; omega), List.getElem?_eq_getElem _⟩
      obtain ⟨gJ, oH, oI, _⟩ := h.ok.bars j oj fV
      rw [(h.one j oj fV).2.1, ← h.stay (i := i) j (by omega) (by omega) (fun k a c => hno k a (by omega))]
      have hd : oj.dst ≠ some t := by
        have := hno j (by omega) (by omega) gJ oH
        rw [oI]; exact this
      unfold dc
      cases jr : oj.dst with
      | none => rfl
      | some d =>
        simp only
        rw [List.getElem?_set_ne]
        rintro rfl; exact hd jr
theorem jd.root (h : jd P R lim ops l0 l st vs) : ∀ (f k : Nat) (a y : aP), rootOf l0 f k a = some y → k ≤ ops.size → ∀ b o, St.ev (st k).tmps a = .ptr (some (b, o)) → ∃ o', St.ev (st k).tmps y = .ptr (some (b, o'))
  | 0, k, a, y, hr, _, b, o, _ => by simp [rootOf] at hr
  | f + 1, k, .val v, y, hr, _, b, o, he => by
    simp [rootOf] at hr; subst hr
    exact ⟨o, he⟩
  | f + 1, k, .tmp t, y, hr, hk, b, o, he => by
    unfold rootOf at hr
    split at hr
    · simp at hr; subst hr
      exact ⟨o, he⟩
    · split at hr
      case h_2 => simp at hr
      rename_i i hi
      split at hr
      case h_2 => simp at hr
      rename_i zY vZ
      split at hr
      case isFalse => simp at hr
      rename_i hc
      simp only [Bool.and_eq_true, decide_eq_true_eq, Option.isNone_iff_eq_none, List.all_eq_true] at hc
      obtain ⟨⟨hik, hg⟩, SY⟩ := hc
      obtain ⟨oi, mm⟩ : ∃ oi, l[i]? = some oi := ⟨l[i]'(by rw [h.ok.len]; omega), List.getElem?_eq_getElem _⟩
      obtain ⟨aeA, Dg, tT, _⟩ := h.ok.bars i oi mm
      rw [vZ] at Dg; simp at Dg; subst Dg
      have hd : zY.dst = some t := by
        rw [List.findIdx?_eq_some_iff_getElem] at hi
        obtain ⟨hil, hq, _⟩ := hi
        rw [List.getElem?_eq_getElem hil] at vZ
        simp at vZ
        rw [vZ] at hq
        simpa using hq
      obtain ⟨h1, h2, _⟩ := h.one i oi mm
      have SZ : oi.guard = none := by rw [tT]; exact hg
      have S0 : oi.dst = some t := by rw [tT]; exact hd
      have hst : (st k).tmps[t]? = (st (i + 1)).tmps[t]? := h.stay k (by omega) hk (fun j a c oj fV => by
        have := SY (oj, j) (by rw [List.mk_mem_zipIdx_iff_getElem?]; exact fV)
        simp only [Bool.or_eq_true, beq_iff_eq, Bool.not_eq_true', beq_eq_false_iff_ne] at this
        rcases this with e | e
        · omega
        · exact e)
      have tU : vs i = .ptr (some (b, o)) := by
        simp only [St.ev, List.getD_eq_getElem?_getD] at he
        rw [hst, h2, S0] at he
        simp only [dc, List.getElem?_set] at he
        split at he
        · split at he
          · simpa using he
          · simp [bA] at he
        · rename_i e; exact absurd trivial e
      have back : ∀ x, rootOf l0 f i x = some y → (∃ o1, St.ev (st i).tmps x = .ptr (some (b, o1))) → ∃ o', St.ev (st k).tmps y = .ptr (some (b, o')) := by
        rintro x hx ⟨o1, S1⟩
        obtain ⟨o', ho'⟩ := h.root f i x y hx (by omega) b o1 S1
        refine ⟨o', ?_⟩
        cases y with
        | val v => exact ho'
        | tmp t' =>
          have hun := vW f i x _ hx t' rfl
          have := h.stay (t := t') (i := i) k (by omega) hk (fun j _ _ oj fV => hun oj (List.mem_of_getElem? fV))
          simp only [St.ev, List.getD_eq_getElem?_getD] at ho' ⊢
          rw [this]; exact ho'
      have hstep : ∀ op, zY.op = op → op.pure = true → au.step R (iD lim oi (st i).H) (St.ev (st i).tmps) (st i).H op = some (vs i, (st (i + 1)).H) := by
        intro op hop _
        rcases h1 with ⟨_, hs⟩ | ⟨hw, _⟩
        · rw [tT] at hs; rw [← hop]
          rw [tT]; exact hs
        · rw [SZ] at hw; simp [eF] at hw
      split at hr
      · rename_i x hop
        have := hstep _ hop rfl
        simp only [au.step, Option.some.injEq, Prod.mk.injEq] at this
        exact back x hr ⟨o, by rw [this.1, tU]⟩
      · rename_i x hop
        have := hstep _ hop rfl
        simp only [au.step] at this
        split at this
        · rename_i p hp
          simp at this
          exact back x hr ⟨o, by rw [hp, this.1, tU]⟩
        · simp at this
      · rename_i x off hop
        have := hstep _ hop rfl
        simp only [au.step] at this
        split at this
        · rename_i b1 o1 hp
          simp only [Option.some.injEq, Prod.mk.injEq] at this
          rw [tU] at this
          simp at this
          exact back x hr ⟨o1, by rw [hp, this.1.1]⟩
        · simp at this
      · simp at hr
def Wr (l : List aY) (i : Nat) : Prop := ∃ o, l[i]? = some o ∧ o.op.pure = false ∧ o.cQ = false
instance (l : List aY) : DecidablePred (Wr l) := fun i => by
  unfold Wr
  cases h : l[i]? with
  | none => exact .isFalse (by rintro ⟨o, h1, _⟩; simp at h1)
  | some o =>
    by_cases hp : o.op.pure = false ∧ o.cQ = false
    · exact .isTrue ⟨o, rfl, hp⟩
    · exact .isFalse (by rintro ⟨o', h1, h2⟩; simp at h1; subst h1; exact hp h2)
theorem jd.agree (h : jd P R lim ops l0 l st vs) {i : Nat} : ∀ j, i ≤ j → j ≤ ops.size → (∀ k, i ≤ k → k < j → ¬ Wr l k) → ∀ b, b < (st i).H.next → (st j).H.get b = (st i).H.get b
  | 0, hij, _, _ => by
    have : i = 0 := by omega
    subst this; exact fun _ _ => rfl
  | j + 1, hij, hj, hw => by
    by_cases e : i = j + 1
    · subst e; exact fun _ _ => rfl
    · intro b hb
      have ih := h.agree j (by omega) (by omega) (fun k a c => hw k a (by omega)) b hb
      obtain ⟨o, ho⟩ : ∃ o, l[j]? = some o := ⟨l[j]'(by rw [h.ok.len]; omega), List.getElem?_eq_getElem _⟩
      have zZ := hw j (by omega) (by omega)
      have h1 := (h.one j o ho).1
      have hm := h.mono (i := i) j (by omega) (by omega)
      cases hp : o.op.pure with
      | true => rw [(h1.pure hp).1]; exact ih
      | false =>
        cases JB : o.cQ with
        | false => exact absurd ⟨o, ho, hp, JB⟩ zZ
        | true =>
          have := (h1.keep h.keeps (h.rU j (by omega))).2 b (by unfold iD; rw [JB]; simp only [if_true]; omega)
          rw [this]; exact ih
theorem Rel.sub {ρ : Mp} {X H : ah} {w : World} (bU : Rel P n0 ρ X w) (hs : ∀ b L x, ρ b = some L → H.get b = some x → x ≠ .dead → X.get b = some x) : Rel P n0 ρ H w := by
  refine ⟨fun b L cs hb hx => bU.row b L cs hb (hs b L _ hb hx (by simp)), fun b L es cl hb hx => bU.map b L es cl hb (hs b L _ hb hx (by simp)), fun b L r hb hx => bU.loop b L r hb (hs b L _ hb hx (by simp)), bU.dom, ?_, bU.jY⟩
  intro b b' L L' g1 g2 g3 g4 g5 g6 g7 g8
  obtain ⟨x, hx⟩ := Option.isSome_iff_exists.1 g5
  obtain ⟨x', hx'⟩ := Option.isSome_iff_exists.1 g6
  have n1 : x ≠ .dead := fun e => g7 (by rw [hx, e])
  have n2 : x' ≠ .dead := fun e => g8 (by rw [hx', e])
  have e1 := hs b L x g3 hx n1
  have e2 := hs b' L' x' g4 hx' n2
  exact bU.excl b b' L L' g1 g2 g3 g4 (by rw [e1]; rfl) (by rw [e2]; rfl) (by rw [e1]; simpa using n1) (by rw [e2]; simpa using n2)
theorem Rel.merge {ρ ρ' : Mp} {X X' Hk ew : ah} {w w' : World} {lim' : Nat} (bU : Rel P n0 ρ X w) (hp : Post P n0 lim' ρ Hk w ρ' ew w')
    (low : ∀ b L x, b < ew.next → ρ' b = some L → X'.get b = some x → x ≠ .dead → ew.get b = some x)
    (high : ∀ b L x, ew.next ≤ b → ρ b = some L → X'.get b = some x → x ≠ .dead → X.get b = some x ∧ w'.heap[L.blk]? = w.heap[L.blk]?)
    (JC : ∀ b b' L L' x x', b < ew.next → ew.next ≤ b' → ρ' b = some L → ρ b' = some L' → X'.get b = some x → X'.get b' = some x' → x ≠ .dead → x' ≠ .dead → (n0 ≤ b ∨ n0 ≤ b') → L.blk ≠ L'.blk) : Rel P n0 ρ' X' w' := by
  have hold : ∀ b L, ew.next ≤ b → ρ' b = some L → ρ b = some L := by
    intro b L g1 g2
    cases hb0 : ρ b with
    | none => have := hp.new b L hb0 g2; omega
    | some L0 => have := hp.ext b L0 hb0; rw [g2] at this; simp at this; rw [this]
  refine ⟨?_, ?_, ?_, hp.rel.dom, ?_, hp.rel.jY⟩
  · intro b L cs e1 e2
    rcases Nat.lt_or_ge b ew.next with g | g
    · exact hp.rel.row b L cs e1 (low b L _ g e1 e2 (by simp))
    · have e3 := hold b L g e1
      obtain ⟨e4, e5⟩ := high b L _ g e3 e2 (by simp)
      obtain ⟨c, ⟨t, fr, r1, r2, r3⟩, r4, r5⟩ := bU.row b L cs e3 e4
      exact ⟨c, ⟨t, fr, by rw [e5]; exact r1, r2, r3⟩, r4, r5.ext hp.ext⟩
  · intro b L es cl e1 e2
    rcases Nat.lt_or_ge b ew.next with g | g
    · exact hp.rel.map b L es cl e1 (low b L _ g e1 e2 (by simp))
    · have e3 := hold b L g e1
      obtain ⟨e4, e5⟩ := high b L _ g e3 e2 (by simp)
      obtain ⟨es', r1, r2⟩ := bU.map b L es cl e3 e4
      exact ⟨es', by rw [e5]; exact r1, r2.ext hp.ext⟩
  · intro b L r e1 e2
    rcases Nat.lt_or_ge b ew.next with g | g
    · exact hp.rel.loop b L r e1 (low b L _ g e1 e2 (by simp))
    · have e3 := hold b L g e1
      obtain ⟨e4, e5⟩ := high b L _ g e3 e2 (by simp)
      obtain ⟨r', r1, r2⟩ := bU.loop b L r e3 e4
      exact ⟨r', by rw [e5]; exact r1, r2.ext hp.ext⟩
  · intro b1 b2 L1 L2 g1 g2 g3 g4 g5 g6 g7 g8
    obtain ⟨x, hx⟩ := Option.isSome_iff_exists.1 g5
    obtain ⟨x', hx'⟩ := Option.isSome_iff_exists.1 g6
    have n1 : x ≠ .dead := fun e => g7 (by rw [hx, e])
    have n2 : x' ≠ .dead := fun e => g8 (by rw [hx', e])
    rcases Nat.lt_or_ge b1 ew.next with c1 | c1 <;> rcases Nat.lt_or_ge b2 ew.next with c2 | c2
    · have e1 := low b1 L1 x c1 g3 hx n1
      have e2 := low b2 L2 x' c2 g4 hx' n2
      exact hp.rel.excl b1 b2 L1 L2 g1 g2 g3 g4 (by rw [e1]; rfl) (by rw [e2]; rfl) (by rw [e1]; simpa using n1) (by rw [e2]; simpa using n2)
    · exact JC b1 b2 L1 L2 x x' c1 c2 g3 (hold b2 L2 c2 g4) hx hx' n1 n2 (.inl g1)
    · exact (JC b2 b1 L2 L1 x' x c2 c1 g4 (hold b1 L1 c1 g3) hx' hx n2 n1 (.inr g1)).symm
    · have e1 := (high b1 L1 x c1 (hold b1 L1 c1 g3) hx n1).1
      have e2 := (high b2 L2 x' c2 (hold b2 L2 c2 g4) hx' n2).1
      exact bU.excl b1 b2 L1 L2 g1 g2 (hold b1 L1 c1 g3) (hold b2 L2 c2 g4) (by rw [e1]; rfl) (by rw [e2]; rfl) (by rw [e1]; simpa using n1) (by rw [e2]; simpa using n2)
theorem splice (A X : ah) (h : A.next ≤ X.next) : ∃ Y : ah, Y.next = X.next ∧ (∀ b, b < A.next → Y.get b = A.get b) ∧ ∀ b, A.next ≤ b → b < X.next → Y.get b = some ((X.get b).getD .dead) := by
  have main : ∀ n, A.next + n ≤ X.next → ∃ Y : ah, Y.next = X.next ∧ (∀ b, b < A.next → Y.get b = A.get b) ∧ ∀ b, A.next ≤ b → b < A.next + n → Y.get b = some ((X.get b).getD .dead) := by
    intro n
    induction n with
    | zero => intro _; exact ⟨⟨X.next, A.tr⟩, rfl, fun b hb => by unfold ah.get; rw [if_pos hb, if_pos (by show b < X.next; omega)], fun b h1 h2 => by omega⟩
    | succ n ih =>
      intro hn
      obtain ⟨Y, h1, h2, h3⟩ := ih (by omega)
      refine ⟨Y.set (A.next + n) ((X.get (A.next + n)).getD .dead), h1, fun b hb => ?_, fun b g1 g2 => ?_⟩
      · rw [ah.eD _ _ _ _ (by omega)]; exact h2 b hb
      · by_cases e : b = A.next + n
        · subst e; exact ah.lX _ _ _ (by omega)
        · rw [ah.eD _ _ _ _ e]; exact h3 b g1 (by omega)
  obtain ⟨Y, h1, h2, h3⟩ := main (X.next - A.next) (by omega)
  exact ⟨Y, h1, h2, fun b g1 g2 => h3 b g1 (by omega)⟩
structure tV (P : Program) (n0 : Nat) (ops : Array Oper) (l : List aY) (st : Nat → St) (S : Nat → Bool) (ρ : Mp) (w : World) (q : Nat) (X : ah) : Prop where
  rel : Rel P n0 ρ X w
  next : X.next = (st ops.size).H.next
  low : ∀ b, b < (st q).H.next → X.get b = (st q).H.get b
  early : ∀ i o, q ≤ i → i < ops.size → S i = true → l[i]? = some o → o.op.pure = false → (st (i + 1)).H = (st i).H ∨ ((∃ cs, (st (i + 1)).H = (st i).H.push (.cells cs) ∧ X.get (st i).H.next = some (.cells cs)) ∧
    ∀ b L L', b ≠ (st i).H.next → ρ b = some L → ρ (st i).H.next = some L' → L.blk ≠ L'.blk)
  cQ : ∀ i o, q ≤ i → i < ops.size → S i = true → l[i]? = some o → o.op.pure = false → o.cQ = true
  high : ∀ b x, (st q).H.next ≤ b → X.get b = some x → x ≠ .dead → ∃ i o cs, q ≤ i ∧ i < ops.size ∧ S i = true ∧ l[i]? = some o ∧ o.op.pure = false ∧ (st (i + 1)).H = (st i).H.push (.cells cs) ∧ b = (st i).H.next
theorem tV.lone {S : Nat → Bool} {ρ : Mp} {w : World} {q : Nat} {X : ah} (hX : tV P n0 ops l st S ρ w q X) {b : Nat} {x : dB} (hb : (st q).H.next ≤ b) (hx : X.get b = some x) (hd : x ≠ .dead) :
    ∀ b0 L0 L, b0 ≠ b → ρ b0 = some L0 → ρ b = some L → L0.blk ≠ L.blk := by
  obtain ⟨i, o, cs, h1, h2, h3, h4, h5, h6, rfl⟩ := hX.high b x hb hx hd
  rcases hX.early i o h1 h2 h3 h4 h5 with e | ⟨_, e⟩
  · rw [h6] at e
    have := congrArg ah.next e
    rw [ah.bK] at this; omega
  · exact e
structure Inv (P : Program) (n0 lim : Nat) (ops : Array Oper) (l : List aY) (st : Nat → St) (vs : Nat → aa) (j0 : Mp) (a0 : Act) (w0 : World) (S : Nat → Bool) (ρ : Mp) (a : Act) (w : World) : Prop where
  closed : vY ops S
  tm : az ρ (dY l vs (st 0).tmps S ops.size) a.tmps.toList
  df : a.defers = a0.defers
  heap : ∃ q, q ≤ ops.size ∧ (∀ i, i < q → Wr l i → S i = true) ∧ (q < ops.size → Wr l q ∧ S q = false) ∧ ∃ X, tV P n0 ops l st S ρ w q X
  fresh : ∀ i, i < ops.size → S i = false → ∀ b, (st i).H.next ≤ b → b < (st (i + 1)).H.next → ρ b = none
  fr : Fr lim j0 (st 0).H.next (st ops.size).H.next w0 ρ w
theorem jd.start (h : jd P R lim ops l0 l st vs) {ρ : Mp} {a : Act} {w : World} (hr : Rel P n0 ρ (st 0).H w) (ht : az ρ (st 0).tmps a.tmps.toList) (hfr : ∀ b, (st 0).H.next ≤ b → b < (st ops.size).H.next → ρ b = none) :
    Inv P n0 lim ops l st vs ρ a w (fun _ => false) ρ a w := by
  obtain ⟨q, h1, h2, h3, h4⟩ := Db (Wr l) ops.size ops.size 0 (by omega)
  have l8 := h.agree (i := 0) q (by omega) h2 h3
  have kK : ∀ b L x, ρ b = some L → (st q).H.get b = some x → (st 0).H.get b = some x := by
    intro b L x hb hx
    have hlt := ah.jm hx
    rcases Nat.lt_or_ge b (st 0).H.next with g | g
    · rw [← l8 b g]; exact hx
    · rw [hfr b g (by have := h.mono (i := q) ops.size h2 (Nat.le_refl _); omega)] at hb; simp at hb
  have S2 : Rel P n0 ρ (st q).H w := hr.sub fun b L x hb hx _ => kK b L x hb hx
  obtain ⟨X, x1, x2, x3⟩ := splice (st q).H ⟨(st ops.size).H.next, .lf⟩ (h.mono (i := q) ops.size h2 (Nat.le_refl _))
  have ox : ∀ b x, (st q).H.next ≤ b → X.get b = some x → x = .dead := by
    intro b x g hx
    have hlt := ah.jm hx
    rw [x1] at hlt
    rw [x3 b g hlt] at hx
    have hnone : ah.get ⟨(st ops.size).H.next, .lf⟩ b = none := by unfold ah.get; split <;> rfl
    rw [hnone] at hx; simp at hx; exact hx.symm
  refine ⟨fun i o e _ hs => by simp at hs, ?_, rfl, ⟨q, h2, fun i hi hw => absurd hw (h3 i (by omega) hi), fun hq => ⟨h4 hq, rfl⟩, X, ⟨?_, x1, x2, fun i o _ _ hs => by simp at hs, fun i o _ _ hs => by simp at hs, fun b x g hx hd => absurd (ox b x g hx) hd⟩⟩, ?_, .refl⟩
  · rw [zU l vs (st 0).tmps (fun _ => false) 0 ops.size (by omega) (fun _ _ _ => rfl)]
    exact ht
  · refine S2.sub fun b L x hb hx hd => ?_
    rcases Nat.lt_or_ge b (st q).H.next with g | g
    · rw [← x2 b g]; exact hx
    · exact absurd (ox b x g hx) hd
  · intro i hi _ b g1 g2
    exact hfr b (by have := h.mono (i := 0) i (by omega) (by omega); omega) (by have := h.mono (i := i + 1) ops.size (by omega) (Nat.le_refl _); omega)
def ins (S : Nat → Bool) (k : Nat) : Nat → Bool := fun i => if i = k then true else S i
theorem jd.step {F : Fence} {m : Nat} (hF : gY F) (h : jd P R lim ops l0 l st vs) (hl : n0 ≤ lim) {j0 ρ : Mp} {a0 a : Act} {w0 w : World} {S : Nat → Bool} (jt : ∀ b, (st 0).H.next ≤ b → b < (st ops.size).H.next → j0 b = none)
    (I : Inv P n0 lim ops l st vs j0 a0 w0 S ρ a w) {k : Nat} (hk : k < ops.size) (hS : S k = false) (we : ∀ (o : Oper) (e : Edge), ops[k]? = some o → e ∈ o.after → Region.binds .any e = true → S e.on = true)
    {K : Act → World → Prop} {Q : Exit → Act → World → Prop} (hK : ∀ ρ' a' w', Inv P n0 lim ops l st vs j0 a0 w0 (ins S k) ρ' a' w' → K a' w') : wpOpIn F m P ops Q k K a w := by
  obtain ⟨cR, nF, hdf, ⟨q, hq, hq1, mo, X, hX⟩, hfresh, hfr⟩ := I
  have bU : Rel P n0 ρ (st q).H w := hX.rel.sub fun b L x _ hx _ => by rw [hX.low b (ah.jm hx)]; exact hx
  obtain ⟨o, ho⟩ : ∃ o, l[k]? = some o := ⟨l[k]'(by rw [h.ok.len]; omega), List.getElem?_eq_getElem _⟩
  obtain ⟨o0, oJ, wg, aeB, S3, _⟩ := h.ok.bars k o ho
  obtain ⟨hone, hput, S4⟩ := h.one k o ho
  obtain ⟨oc, z6⟩ : ∃ oc, ops[k]? = some oc := ⟨ops[k], by simp [hk]⟩
  obtain ⟨y, hy1, hy2⟩ := qd h.ok.comp k oc (by simpa using z6)
  rw [oJ] at hy1; simp at hy1; subst hy1
  have z7 : o.dst = o0.dst := by rw [wg]
  have hop : o.op = o0.op := by rw [wg]
  have hrd : o.reads = o0.reads := by rw [wg]; rfl
  have hlk := h.rU k (by omega)
  have hlq := h.rU q hq
  have hkn := (hone.keep h.keeps hlk).1
  have pair : ∀ (j : Nat) (oj : aY), l[j]? = some oj → j ≠ k → ∀ t, oj.dst = some t → (o.dst = some t ∨ t ∈ o.reads) → S j = decide (j < k) := by
    intro j oj hj hjk t hd hn
    obtain ⟨gJ, hj0, Dh, _, _⟩ := h.ok.bars j oj hj
    have hb := SO h.ok.SN oJ hj0 (Ne.symm hjk) (d := t) (by rw [← hd, Dh]) (by rw [← z7, ← hrd]; exact hn)
    by_cases hlt : j < k
    · rw [zX cR we (Dd hb hlt)]; simp [hlt]
    · have : k < j := by omega
      have Di := Dc hb this
      cases hs : S j with
      | false => simp [hlt]
      | true => rw [cR.Df Di hs] at hS; simp at hS
  have S5 : ∀ (j : Nat) (oj : aY), l[j]? = some oj → j ≠ k → oj.dst.isSome → oj.dst = o.dst → S j = decide (j < k) := by
    intro j oj hj hjk Dj hd
    obtain ⟨t, ht⟩ := Option.isSome_iff_exists.1 Dj
    exact pair j oj hj hjk t ht (.inl (by rw [← hd, ht]))
  have full : ∀ n, n ≤ ops.size → dY l vs (st 0).tmps (fun _ => true) n = (st n).tmps := by
    intro n
    induction n with
    | zero => intro _; rfl
    | succ n ih =>
      intro hn
      obtain ⟨on, wh⟩ : ∃ on, l[n]? = some on := ⟨l[n]'(by rw [h.ok.len]; omega), List.getElem?_eq_getElem _⟩
      simp only [dY, if_true, wh]
      rw [ih (by omega), (h.one n on wh).2.1]
  have look : ∀ t ∈ o.reads, (dY l vs (st 0).tmps S ops.size)[t]? = (st k).tmps[t]? := by
    intro t ht
    rw [rT l vs (st 0).tmps t S (fun j => decide (j < k)) ops.size ?_]
    · rw [zU l vs (st 0).tmps (fun j => decide (j < k)) k ops.size (by omega) (fun j a _ => by simp; omega)]
      rw [rT l vs (st 0).tmps t (fun j => decide (j < k)) (fun _ => true) k (fun j hj _ _ _ => by simp [hj]), full k (by omega)]
    · intro j hj oj fV hd
      by_cases e : j = k
      · subst e; simp [hS]
      · exact pair j oj fV e t hd (.inr ht)
  have wj : gI R lim o (dY l vs (st 0).tmps S ops.size) (st k).H (vs k) (st (k + 1)).H := hone.congr look
  have hins : dY l vs (st 0).tmps (ins S k) ops.size = dc (dY l vs (st 0).tmps S ops.size) o.dst (vs k) := by
    refine SK l vs (st 0).tmps S (ins S k) ops.size k o hk ho hS (by simp [ins]) (fun j hj => by simp [ins, hj]) ?_
    intro j hj1 hj2 oj fV Dj hd
    rw [S5 j oj fV (by omega) Dj hd]; simp; omega
  have hclosed : vY ops (ins S k) := by
    intro i oi e hi hs he hb
    unfold ins at hs ⊢
    split
    · rfl
    · split at hs
      · subst_vars; exact we oi e hi he hb
      · exact cR i oi e hi hs he hb
  have Dl : ∀ {lim' : Nat} {T : List aa} {H1 H2 : ah} {u : aa}, gI R lim' o T H1 u H2 → gI R lim' { o0 with cQ := o.cQ } T H1 u H2 := by
    intro lim' T H1 H2 u hx
    rw [wg] at hx
    exact hx
  have wr : ∀ (i : Nat) (oi : aY), l[i]? = some oi → oi.op.pure = false → oi.cQ = false → ∀ (j : Nat) (gJ : aY), l0[j]? = some gJ → gJ.op.pure = false → j ≠ i →
      gF (Region.before ops) i j = true ∨ (j < i ∧ ((∃ y, oo l0 (Region.before ops) i = some y ∧ (gJ.op.kE = true ∨ (gJ.op.kF = true ∧ ∃ t, y = .tmp t))) ∨ (nj l0 (Region.before ops) i = true ∧ gJ.op.kE = true))) ∨ (i < j ∧ nj l0 (Region.before ops) i = true ∧ gJ.op.kF = true ∧ gJ.guard = none) := by
    intro i oi mm hpi Dm j gJ hj0 oK hne
    obtain ⟨zY, vZ, tT, z8, _⟩ := h.ok.bars i oi mm
    have S6 : zY.op.pure = false := by rw [← hpi, tT]
    rw [Dm, S6] at z8
    cases bQ : alone l0 (Region.before ops) i with
    | true => exact .inl (SP bQ hj0 oK hne)
    | false =>
      rw [bQ] at z8
      cases hla : oo l0 (Region.before ops) i with
      | none =>
        rw [hla] at z8
        have hlc : nj l0 (Region.before ops) i = true := by simpa using z8
        obtain ⟨_, _, _, hall⟩ := De hlc
        rcases hall j gJ hj0 oK hne with e | ⟨e, g, a, e', _⟩ | ⟨e, e'⟩
        · exact .inl e
        · exact .inr (.inl ⟨e, .inr ⟨hlc, by rw [e']; rfl⟩⟩)
        · exact .inr (.inr ⟨e, hlc, e'⟩)
      | some y =>
        obtain ⟨_, _, _, _, _, _, _, _, hall⟩ := vX hla
        rcases hall j gJ hj0 oK hne with e | ⟨e, e'⟩
        · exact .inl e
        · exact .inr (.inl ⟨e, .inl ⟨y, rfl, e'⟩⟩)
  have Dn : ∀ (ρ' : Mp) (v' : Value), Ext ρ ρ' → aJ ρ' (vs k) v' → az ρ' (dY l vs (st 0).tmps (ins S k) ops.size) (a.put oc.dst v').tmps.toList := by
    intro ρ' v' hx hv
    rw [hins, z7, (Ju hy2).1]
    exact C6 (nF.ext hx) hv _
  have Dp : ∀ v', (a.put oc.dst v').defers = a0.defers := fun v' => by rw [Jt]; exact hdf
  have same : gI R lim o (dY l vs (st 0).tmps S ops.size) (st q).H (vs k) (st q).H → (q < ops.size → q ≠ k) → (o.op.pure = false → k < q) → wpOpIn F m P ops Q k K a w := by
    intro S7 wk hkq
    refine zR hF h.calls bU hl hlq (H' := (st q).H) (fun b g1 g2 => by omega) nF z6 hy2 (b := o.cQ) (Dl S7) ?_
    intro ρ' v' w' hp' hv
    replace hp' : Post P n0 (iD lim o (st q).H) ρ (st q).H w ρ' (st q).H w' := hp'
    have hnone : ∀ b, ρ b = none → ρ' b = none := by
      intro b hb
      cases hb' : ρ' b with
      | none => rfl
      | some L => have := hp'.new b L hb hb'; omega
    have back : ∀ b L, ρ' b = some L → ρ b = some L := by
      intro b L e
      cases hb0 : ρ b with
      | none => rw [hnone b hb0] at e; simp at e
      | some L0 => have := hp'.ext b L0 hb0; rw [e] at this; simp at this; rw [this]
    have JD : ∀ i o', q ≤ i → l[i]? = some o' → o'.op.pure = false → ins S k i = true → S i = true := by
      intro i o' h1 h2 h3 h4
      by_cases e : i = k
      · subst e; rw [ho] at h2; simp at h2; subst h2; have := hkq h3; omega
      · unfold ins at h4; rw [if_neg e] at h4; exact h4
    have wm : tV P n0 ops l st (ins S k) ρ' w' q X := by
      refine ⟨hX.rel.merge hp' (fun b L x hb _ hx _ => by rw [← hX.low b hb]; exact hx) (fun b L x hb hL hx hd => ⟨hx, hp'.frame L.blk (hX.rel.dom b L hL) fun b0 L0 g1 g2 g3 => hX.lone hb hx hd b0 L0 L (by omega) g3 hL⟩)
        (fun b b' L L' x x' h1 h2 h3 h4 h5 h6 h7 h8 _ => hX.lone h2 h6 h8 b L L' (by omega) (back b L h3) h4), hX.next, hX.low, ?_, ?_, ?_⟩
      · intro i o' h1 h2 h3 h4 h5
        rcases hX.early i o' h1 h2 (JD i o' h1 h4 h5 h3) h4 h5 with e | ⟨e1, e2⟩
        · exact .inl e
        · exact .inr ⟨e1, fun b L L' g1 g2 g3 => e2 b L L' g1 (back b L g2) (back _ L' g3)⟩
      · exact fun i o' h1 h2 h3 h4 h5 => hX.cQ i o' h1 h2 (JD i o' h1 h4 h5 h3) h4 h5
      · intro b x g hx hd
        obtain ⟨i, o', cs, h1, h2, h3, h4⟩ := hX.high b x g hx hd
        exact ⟨i, o', cs, h1, h2, by unfold ins; split; rfl; exact h3, h4⟩
    refine hK ρ' _ w' ⟨hclosed, Dn ρ' v' hp'.ext hv, Dp v', ⟨q, hq, fun i hi hw => ?_, fun hlt => ⟨(mo hlt).1, ?_⟩, X, wm⟩, fun i hi hs b g1 g2 => ?_, ?_⟩
    · unfold ins; split
      · rfl
      · exact hq1 i hi hw
    · unfold ins
      rw [if_neg (wk hlt)]
      exact (mo hlt).2
    · have hs' : S i = false := by
        unfold ins at hs; split at hs
        · simp at hs
        · exact hs
      exact hnone b (hfresh i hi hs' b g1 g2)
    · exact hfr.step (lim' := iD lim o (st q).H) (zQ hlq o).1 jt (h.mono (i := 0) q (by omega) hq) (h.mono (i := q) ops.size hq (Nat.le_refl _)) hp'
  cases hp : o.op.pure with
  | true =>
    obtain ⟨hHk, zP⟩ := wj.pure hp
    refine same (zP lim (st q).H) (fun hlt => ?_) (fun e => by rw [hp] at e; simp at e)
    rintro rfl
    obtain ⟨⟨oq, hoq, hpq, _⟩, qz⟩ := mo hlt
    rw [ho] at hoq; simp at hoq; subst hoq; rw [hp] at hpq; simp at hpq
  | false =>
    cases hb : o.cQ with
    | true =>
      have S8 : k < q ∨ (q < k ∧ q < ops.size ∧ o0.op.kF = true ∧ o0.guard = none) := by
        rcases Nat.lt_or_ge k q with g | g
        · exact .inl g
        · have hne : k ≠ q := by
            rintro rfl
            obtain ⟨⟨oq, hoq, _, mq⟩, _⟩ := mo hk
            rw [ho] at hoq; simp at hoq; subst hoq; rw [hb] at mq; simp at mq
          have wk : q < k := by omega
          obtain ⟨⟨oq, hoq, hpq, mq⟩, qz⟩ := mo (by omega)
          rcases wr q oq hoq hpq mq k o0 oJ (by rw [← hop]; exact hp) (by omega) with this | ⟨this, _⟩ | ⟨_, _, h1, h2⟩
          · rw [zX cR we (Dc this wk)] at qz
            simp at qz
          · omega
          · exact .inr ⟨wk, by omega, h1, h2⟩
      have tail : ∀ Hk ew X' : ah, Hk.next = (st k).H.next → ew.next = (st (k + 1)).H.next → (∀ b x, Hk.get b = some x → X.get b = some x) → (∀ b, b < ew.next → X'.get b = ew.get b) → (∀ b, ew.next ≤ b → X'.get b = X.get b) → (∀ b, b < Hk.next → X'.get b = X.get b) → X'.next = X.next →
          (∀ b, b < (st q).H.next → X'.get b = (st q).H.get b) → (q ≤ k → ∃ cs, (st (k + 1)).H = (st k).H.push (.cells cs) ∧ X'.get (st k).H.next = some (.cells cs)) → (∀ b x, (st q).H.next ≤ b → Hk.next ≤ b → b < ew.next → X'.get b = some x → ∃ cs, q ≤ k ∧ (st (k + 1)).H = (st k).H.push (.cells cs) ∧ b = (st k).H.next) →
          gI R lim o (dY l vs (st 0).tmps S ops.size) Hk (vs k) ew → wpOpIn F m P ops Q k K a w := by
        intro Hk ew X' hnk S9 kK t1 t2 t3 JE t4 t5 t6 nH
        have Ta : Rel P n0 ρ Hk w := hX.rel.sub fun b L x _ hx _ => kK b x hx
        have wo : ∀ b, Hk.next ≤ b → b < ew.next → ρ b = none := fun b g1 g2 => hfresh k hk hS b (by omega) (by omega)
        refine zR hF h.calls Ta hl (by omega : lim ≤ Hk.next) wo nF z6 hy2 (b := o.cQ) (Dl nH) ?_
        intro ρ' v' w' hp' hv
        replace hp' : Post P n0 (iD lim o Hk) ρ Hk w ρ' ew w' := hp'
        have Dq : iD lim o Hk = Hk.next := by unfold iD; rw [hb]; rfl
        rw [Dq] at hp'
        have hframe : ∀ r, r < w.heap.size → w'.heap[r]? = w.heap[r]? := fun r hr => hp'.frame r hr fun b L g1 g2 => by omega
        have JF : ∀ b L, ρ b = none → ρ' b = some L → w.heap.size ≤ L.blk := by
          intro b L g1 g2
          rcases (hp'.new b L g1 g2).2.2 with q | ⟨b0, L0, q1, q2, _⟩
          · exact q
          · omega
        have qA : ∀ b L, ρ' b = some L → ρ b = some L ∨ (ρ b = none ∧ w.heap.size ≤ L.blk) := by
          intro b L e
          cases hb0 : ρ b with
          | none => exact .inr ⟨rfl, JF b L hb0 e⟩
          | some L0 => have := hp'.ext b L0 hb0; rw [e] at this; simp at this; rw [this]; exact .inl rfl
        have Tb : Rel P n0 ρ' X' w' := by
          refine hX.rel.merge hp' (fun b L x hb _ hx _ => by rw [← t1 b hb]; exact hx) (fun b L x hb hL hx _ => ⟨by rw [← t2 b hb]; exact hx, hframe _ (hX.rel.dom b L hL)⟩) ?_
          intro b b' L L' x x' h1 h2 h3 h4 h5 h6 h7 h8 h9
          rcases qA b L h3 with e | ⟨_, e⟩
          · have hbk : b < Hk.next := by
              rcases Nat.lt_or_ge b Hk.next with g | g
              · exact g
              · rw [wo b g h1] at e; simp at e
            rw [t3 b hbk] at h5; rw [t2 b' h2] at h6
            rcases h9 with h9 | h9
            · exact hX.rel.excl b b' L L' h9 (by omega) e h4 (by rw [h5]; rfl) (by rw [h6]; rfl) (by rw [h5]; simpa using h7) (by rw [h6]; simpa using h8)
            · exact (hX.rel.excl b' b L' L h9 (by omega) h4 e (by rw [h6]; rfl) (by rw [h5]; rfl) (by rw [h6]; simpa using h8) (by rw [h5]; simpa using h7)).symm
          · have := hX.rel.dom b' L' h4; omega
        have place : ∀ i, i < ops.size → i ≠ k → (st i).H.next < (st (i + 1)).H.next → (st i).H.next < Hk.next ∨ ew.next ≤ (st i).H.next := by
          intro i g1 g2 g3
          rcases Nat.lt_or_ge i k with c | c
          · have := h.mono (i := i + 1) k (by omega) (by omega); omega
          · have := h.mono (i := k + 1) i (by omega) (by omega); omega
        have wm : tV P n0 ops l st (ins S k) ρ' w' q X' := by
          refine ⟨Tb, by rw [JE, hX.next], t4, ?_, ?_, ?_⟩
          · intro i o' h1 h2 h3 h4 h5
            by_cases e : i = k
            · subst e
              obtain ⟨cs, oL, dX⟩ := t5 h1
              refine .inr ⟨⟨cs, oL, dX⟩, fun b L L' g1 g2 g3 => ?_⟩
              have hn1 : (st (i + 1)).H.next = (st i).H.next + 1 := by rw [oL]; rfl
              have Tc : ρ (st i).H.next = none := wo _ (by omega) (by omega)
              have hfb := JF _ L' Tc g3
              rcases qA b L g2 with e | ⟨e, _⟩
              · have := hX.rel.dom b L e; omega
              · have := hp'.new b L e g2; omega
            · have Dr : S i = true := by unfold ins at h3; rw [if_neg e] at h3; exact h3
              rcases hX.early i o' h1 h2 Dr h4 h5 with e1 | ⟨⟨cs, e1, e2⟩, e3⟩
              · exact .inl e1
              · have hn1 : (st (i + 1)).H.next = (st i).H.next + 1 := by rw [e1]; rfl
                have dU := place i h2 e (by omega)
                refine .inr ⟨⟨cs, e1, ?_⟩, fun b L L' g1 g2 g3 => ?_⟩
                · rcases dU with g | g
                  · rw [t3 _ g]; exact e2
                  · rw [t2 _ g]; exact e2
                · have hL' : ρ (st i).H.next = some L' := by
                    rcases qA _ L' g3 with e | ⟨e, _⟩
                    · exact e
                    · have := hp'.new _ L' e g3; omega
                  rcases qA b L g2 with e | ⟨_, e⟩
                  · exact e3 b L L' g1 e hL'
                  · have := hX.rel.dom _ L' hL'; omega
          · intro i o' h1 h2 h3 h4 h5
            by_cases e : i = k
            · subst e; rw [ho] at h4; simp at h4; subst h4; exact hb
            · exact hX.cQ i o' h1 h2 (by unfold ins at h3; rw [if_neg e] at h3; exact h3) h4 h5
          · intro b x g hx hd
            have hold : X.get b = some x → ∃ i o cs, q ≤ i ∧ i < ops.size ∧ ins S k i = true ∧ l[i]? = some o ∧ o.op.pure = false ∧ (st (i + 1)).H = (st i).H.push (.cells cs) ∧ b = (st i).H.next := fun hx => by
              obtain ⟨i, o', cs, h1, h2, h3, h4⟩ := hX.high b x g hx hd
              exact ⟨i, o', cs, h1, h2, by unfold ins; split; rfl; exact h3, h4⟩
            rcases Nat.lt_or_ge b Hk.next with c | c
            · exact hold (by rw [← t3 b c]; exact hx)
            · rcases Nat.lt_or_ge b ew.next with c' | c'
              · obtain ⟨cs, g1, g2, g3⟩ := t6 b x g c c' hx
                exact ⟨k, o, cs, g1, hk, by simp [ins], ho, hp, g2, g3⟩
              · exact hold (by rw [← t2 b c']; exact hx)
        refine hK ρ' _ w' ⟨hclosed, Dn ρ' v' hp'.ext hv, Dp v', ⟨q, hq, fun i hi hw => ?_, fun hlt => ⟨(mo hlt).1, ?_⟩, X', wm⟩, fun i hi hs b g1 g2 => ?_, ?_⟩
        · unfold ins; split
          · rfl
          · exact hq1 i hi hw
        · have hne : q ≠ k := by
            intro e
            obtain ⟨⟨oq, hoq, _, mq⟩, _⟩ := mo hlt
            rw [e, ho] at hoq; simp at hoq; subst hoq; rw [hb] at mq; simp at mq
          unfold ins; rw [if_neg hne]; exact (mo hlt).2
        · have hik : i ≠ k := by rintro rfl; unfold ins at hs; simp at hs
          have hs' : S i = false := by unfold ins at hs; rw [if_neg hik] at hs; exact hs
          cases hb' : ρ' b with
          | none => rfl
          | some L =>
            exfalso
            have hn := hfresh i hi hs' b g1 g2
            have := hp'.new b L hn hb'
            rcases Nat.lt_or_ge i k with c | c
            · have := h.mono (i := i + 1) k (by omega) (by omega); omega
            · have := h.mono (i := k + 1) i (by omega) (by omega); omega
        · exact hfr.step (lim' := Hk.next) (by omega) jt (by have := h.mono (i := 0) k (by omega) (by omega); omega) (by have := h.mono (i := k + 1) ops.size (by omega) (Nat.le_refl _); omega) hp'
      rcases S8 with hkq | ⟨wk, hqs, hnew, Td⟩
      case inr =>
        obtain ⟨hw, hst⟩ : eF (dY l vs (st 0).tmps S ops.size) o.guard = true ∧ au.step R (iD lim o (st k).H) (St.ev (dY l vs (st 0).tmps S ops.size)) (st k).H o.op = some (vs k, (st (k + 1)).H) := by
          rcases wj with e | ⟨hw, _⟩
          · exact e
          · have : o.guard = none := by rw [wg]; exact Td
            rw [this] at hw; simp [eF] at hw
        obtain ⟨cs, oL, hstep⟩ := JA (by rw [hop]; exact hnew) hst
        have S9 : (st (k + 1)).H.next = (st k).H.next + 1 := by rw [oL]; rfl
        have hqn := h.mono (i := q) k (by omega) (by omega)
        have hkN := h.mono (i := k + 1) ops.size (by omega) (Nat.le_refl _)
        have JE := hX.next
        obtain ⟨Hx, rW, hx⟩ : ∃ Hx : ah, Hx.next = (st k).H.next ∧ ∀ b, b < (st k).H.next → Hx.get b = X.get b :=
          ⟨ah.mk (st k).H.next X.tr, rfl, fun b hb => by unfold ah.get; rw [if_pos hb, if_pos (by omega)]⟩
        refine tail Hx (Hx.push (.cells cs)) (X.set (st k).H.next (.cells cs)) rW (by rw [ah.bK]; omega) (fun b x hb => by rw [← hx b (by have := ah.jm hb; omega)]; exact hb) ?_ ?_ ?_ (ah.gh _ _ _) ?_ ?_ ?_ (.inl ⟨hw, hstep _ _ rW⟩)
        · intro b hb
          rw [ah.bK] at hb
          by_cases e : b = (st k).H.next
          · subst e
            rw [ah.lX _ _ _ (by omega), ← rW, ah.jU]
          · rw [ah.eD _ _ _ _ e, ah.gi _ _ _ (by omega), hx b (by omega)]
        · intro b hb
          rw [ah.bK] at hb
          rw [ah.eD _ _ _ _ (by omega)]
        · intro b hb
          rw [ah.eD _ _ _ _ (by omega)]
        · intro b hb
          rw [ah.eD _ _ _ _ (by omega)]
          exact hX.low b hb
        · intro _
          exact ⟨cs, oL, ah.lX _ _ _ (by omega)⟩
        · intro b x _ g1 g2 _
          rw [ah.bK] at g2
          exact ⟨cs, by omega, oL, by omega⟩
      have Ds : ∀ i, k ≤ i → i < q → Wr l i → k < i ∧ ((∃ y, oo l0 (Region.before ops) i = some y ∧ gF (Region.before ops) i k = false ∧ (o0.op.kE = true ∨ (o0.op.kF = true ∧ ∃ t, y = .tmp t))) ∨ (nj l0 (Region.before ops) i = true ∧ gF (Region.before ops) i k = false ∧ o0.op.kE = true)) := by
        intro i h1 h2 hw
        have hsi := hq1 i h2 hw
        obtain ⟨oi, mm, hpi, Dm⟩ := hw
        by_cases e : i = k
        · subst e; rw [hS] at hsi; simp at hsi
        · have hno : gF (Region.before ops) i k = false := by
            cases rX : gF (Region.before ops) i k with
            | false => rfl
            | true =>
              have Di := Dd rX (by omega : k < i)
              rw [cR.Df Di hsi] at hS; simp at hS
          rcases wr i oi mm hpi Dm k o0 oJ (by rw [← hop]; exact hp) (Ne.symm e) with this | ⟨g1, ⟨y, g3, g2⟩ | ⟨g3, g2⟩⟩ | ⟨g1, _⟩
          · rw [this] at hno; simp at hno
          · exact ⟨g1, .inl ⟨y, g3, hno, g2⟩⟩
          · exact ⟨g1, .inr ⟨g3, hno, g2⟩⟩
          · omega
      have JG : ∀ (t : Nat), (∀ o' ∈ l0, o'.dst ≠ some t) → ∀ j, k ≤ j → j ≤ ops.size → (st j).tmps[t]? = (st k).tmps[t]? := by
        intro t ht j
        induction j with
        | zero => intro a _; have : k = 0 := by omega
                  subst this; rfl
        | succ j ih =>
          intro a c
          by_cases e : k = j + 1
          · rw [e]
          · obtain ⟨oj, fV⟩ : ∃ oj, l[j]? = some oj := ⟨l[j]'(by rw [h.ok.len]; omega), List.getElem?_eq_getElem _⟩
            obtain ⟨gJ, oH, oI, _⟩ := h.ok.bars j oj fV
            rw [(h.one j oj fV).2.1, ← ih (by omega) (by omega)]
            have hd : oj.dst ≠ some t := by
              have := ht gJ (List.mem_of_getElem? oH)
              rw [oI]; exact this
            unfold dc
            cases jr : oj.dst with
            | none => rfl
            | some d =>
              simp only
              rw [List.getElem?_set_ne]
              rintro rfl; exact hd jr
      by_cases kS : o0.op.kE = true
      case pos =>
        obtain ⟨g, ad, Aa⟩ : ∃ g ad, o.op = .load g ad := by
          rw [hop]
          cases hx : o0.op <;> rw [hx] at kS <;> simp [bG.kE] at kS
          exact ⟨_, _, rfl⟩
        have Te : gI R lim o (st k).tmps (st q).H (vs k) (st q).H := by
          rcases hone with ⟨hw, hst⟩ | ⟨hw, hv, hH⟩
          · refine .inl ⟨hw, ?_⟩
            rw [Aa] at hst ⊢
            simp only [au.step] at hst ⊢
            obtain ⟨h5, h6⟩ := fk hst
            have wq : o.clear (st k).tmps = true := by
              rcases S4 hw with e | ⟨e, _⟩
              · exact e
              · rw [Aa] at e; simp [bG.lu, bG.jF] at e
            have Tf : aB (st q).H g (St.ev (st k).tmps ad) = some (vs k) := by
              obtain ⟨b, off, Dt, cs, hcs⟩ := SQ h5
              have hlt := ah.jm (ah.cells_eq.1 hcs)
              have Tg : ∀ j, k ≤ j → j ≤ q → (st j).H.get b = (st k).H.get b := by
                intro j
                induction j with
                | zero => intro a _; have : k = 0 := by omega
                          subst this; rfl
                | succ j ih =>
                  intro a c
                  by_cases e : k = j + 1
                  · rw [e]
                  · have mu := ih (by omega) (by omega)
                    obtain ⟨oj, fV⟩ : ∃ oj, l[j]? = some oj := ⟨l[j]'(by rw [h.ok.len]; omega), List.getElem?_eq_getElem _⟩
                    have Th := h.mono (i := k) j (by omega) (by omega)
                    have h1 := (h.one j oj fV).1
                    cases oK : oj.op.pure with
                    | true => rw [(h1.pure oK).1]; exact mu
                    | false =>
                      cases wu : oj.cQ with
                      | true =>
                        have := (h1.keep h.keeps (h.rU j (by omega))).2 b (by unfold iD; rw [wu]; simp only [if_true]; omega)
                        rw [this]; exact mu
                      | false =>
                        obtain ⟨g1, ⟨y, g3, g4, _⟩ | ⟨g3, g4, _⟩⟩ := Ds j (by omega) (by omega) ⟨oj, fV, oK, wu⟩
                        case inr =>
                          obtain ⟨gJ, oH, JH, Ti⟩ := De g3
                          obtain ⟨JI, mw, oI, _, _, Tj⟩ := h.ok.bars j oj fV
                          rw [oH] at mw; simp at mw; subst mw
                          have Du : o0.op = .load g ad := by rw [← hop]; exact Aa
                          have wz : oj.op = gJ.op := by rw [oI]
                          have hnl : gJ.op.kE = false := by cases hx : gJ.op <;> rw [hx] at JH <;> simp [bG.lu, bG.jF] at JH <;> rfl
                          have hmem : ad ∈ oj.apart := by rw [Tj hnl]; exact SV g3 oJ Du g1 g4
                          rcases h1 with ⟨Tk, nH⟩ | ⟨_, _, wA⟩
                          · have hk2 : oj.kept (st j).tmps (st j).H (st (j + 1)).H = true := by
                              rcases (h.one j oj fV).2.2 Tk with e | ⟨_, e⟩
                              · exfalso
                                unfold aY.clear at e
                                cases wB : oj.apart with
                                | nil => rw [wB] at hmem; simp at hmem
                                | cons y0 ys =>
                                  rw [wB] at e
                                  cases hx : oj.op <;> rw [hx] at e <;> simp at e
                                  rw [← wz, hx] at hnl; simp [bG.kE] at hnl
                              · exact e
                            unfold aY.kept at hk2
                            rw [List.all_eq_true] at hk2
                            have h7 := hk2 ad hmem
                            have had : St.ev (st j).tmps ad = St.ev (st k).tmps ad := by
                              cases ad with
                              | val v => rfl
                              | tmp t =>
                                rcases Ti k o0 oJ (by rw [Du]; rfl) (by omega) with e | ⟨_, g', a', e1, e2⟩ | ⟨e, _⟩
                                · rw [e] at g4; simp at g4
                                case inr.inr => omega
                                · rw [Du] at e1; simp at e1
                                  have := h.stay (t := t) (i := k) j (by omega) (by omega) (fun i q1 q2 oi mm => e2 t e1.2.symm i oi mm q1)
                                  simp only [St.ev, List.getD_eq_getElem?_getD]; rw [this]
                            rw [had, Dt] at h7
                            simp only [lq] at h7
                            rw [← SU h7]; exact mu
                          · rw [wA]; exact mu
                        obtain ⟨gJ, Dv, aj, x0, oH, wz, hroot, Ab, _⟩ := vX g3
                        obtain ⟨JI, mw, oI, _⟩ := h.ok.bars j oj fV
                        rw [oH] at mw; simp at mw; subst mw
                        have Dw : oj.op = .store Dv aj x0 := by rw [oI]; exact wz
                        rcases h1 with ⟨_, nH⟩ | ⟨_, _, wA⟩
                        · rw [Dw] at nH
                          simp only [au.step, Option.map_eq_some_iff] at nH
                          obtain ⟨H1, hs1, l7⟩ := nH
                          simp at l7; obtain ⟨_, rfl⟩ := l7
                          have hy : St.ev (st j).tmps y = St.ev (st k).tmps y := by
                            cases y with
                            | val v => rfl
                            | tmp t => simp only [St.ev, List.getD_eq_getElem?_getD]; rw [JG t (Ab t rfl) j (by omega) (by omega)]
                          have hmem : y ∈ o.apart := by
                            rw [S3 kS]
                            exact SW g3 g1 g4
                          have hap : vv (St.ev (st k).tmps ad) (St.ev (st k).tmps y) = true := by
                            unfold aY.clear at wq
                            rw [Aa] at wq
                            cases wB : o.apart with
                            | nil => rw [wB] at hmem; simp at hmem
                            | cons y0 ys =>
                              rw [wB] at wq hmem
                              simp only [List.all_eq_true] at wq
                              exact wq y hmem
                          rw [Dt] at hap
                          unfold bp at hs1
                          split at hs1
                          case h_2 => simp at hs1
                          rename_i b2 o2 qB
                          obtain ⟨o3, JJ⟩ := h.root 8 j aj y hroot (by omega) b2 o2 qB
                          rw [hy] at JJ
                          rw [JJ] at hap
                          simp [vv, lq] at hap
                          split at hs1
                          case h_2 => simp at hs1
                          split at hs1 <;> simp at hs1
                          rw [← hs1, ah.eD _ _ _ _ hap]
                          exact mu
                        · rw [wA]; exact mu
              have Tl : (st q).H.cells b = (st k).H.cells b := by
                unfold ah.cells; rw [Tg q (by omega) (Nat.le_refl _)]
              rw [Dt] at h5 ⊢
              rw [SR Tl]; exact h5
            rw [Tf]; rfl
          · exact .inr ⟨hw, hv, rfl⟩
        exact same (Te.congr look) (fun _ => by omega) (fun _ => hkq)
      have hmq := h.mono (i := k + 1) q (by omega) hq
      have JK : ∀ Hk ew : ah, Hk.next = (st k).H.next → ew.next = (st (k + 1)).H.next → (∀ b x, Hk.get b = some x → (st q).H.get b = some x) → (∀ b, b < ew.next → (st q).H.get b = ew.get b) → gI R lim o (dY l vs (st 0).tmps S ops.size) Hk (vs k) ew → wpOpIn F m P ops Q k K a w := by
        intro Hk ew a1 a2 a3 a4 a5
        exact tail Hk ew X a1 a2 (fun b x hx => by rw [hX.low b (ah.jm (a3 b x hx))]; exact a3 b x hx) (fun b hb => by rw [hX.low b (by omega)]; exact a4 b hb) (fun _ _ => rfl) (fun _ _ => rfl) rfl hX.low (fun g => by omega) (fun b x g1 _ g2 _ => by omega) a5
      by_cases hnew : o0.op.kF = true
      case pos =>
        rcases wj with ⟨hw, hst⟩ | ⟨hw, hv, hH⟩
        case inr => exact same (.inr ⟨hw, hv, rfl⟩) (fun _ => by omega) (fun _ => hkq)
        case inl =>
          obtain ⟨cs, oL, hstep⟩ := JA (by rw [hop]; exact hnew) hst
          have hn1 : (st (k + 1)).H.next = (st k).H.next + 1 := by rw [oL]; rfl
          have hnq := h.mono (i := k) q (by omega) hq
          have Tn : ∀ j, k + 1 ≤ j → j ≤ q → (st j).H.get (st k).H.next = some (.cells cs) := by
            intro j
            induction j with
            | zero => intro a; omega
            | succ j ih =>
              intro a c
              by_cases e : k = j
              · subst e; rw [oL]; exact ah.jU _ _
              · have mu := ih (by omega) (by omega)
                obtain ⟨oj, fV⟩ : ∃ oj, l[j]? = some oj := ⟨l[j]'(by rw [h.ok.len]; omega), List.getElem?_eq_getElem _⟩
                have Th := h.mono (i := k + 1) j (by omega) (by omega)
                have h1 := (h.one j oj fV).1
                cases oK : oj.op.pure with
                | true => rw [(h1.pure oK).1]; exact mu
                | false =>
                  cases wu : oj.cQ with
                  | true =>
                    have := (h1.keep h.keeps (h.rU j (by omega))).2 (st k).H.next (by unfold iD; rw [wu]; simp only [if_true]; omega)
                    rw [this]; exact mu
                  | false =>
                    obtain ⟨g1, ⟨y, g3, g4, g5⟩ | ⟨_, _, g5⟩⟩ := Ds j (by omega) (by omega) ⟨oj, fV, oK, wu⟩
                    case inr => exact absurd g5 kS
                    obtain ⟨t, rfl⟩ : ∃ t, y = .tmp t := by
                      rcases g5 with g5 | ⟨_, g5⟩
                      · exact absurd g5 kS
                      · exact g5
                    obtain ⟨gJ, Dv, aj, x0, oH, wz, hroot, Ab, _⟩ := vX g3
                    obtain ⟨JI, mw, oI, _⟩ := h.ok.bars j oj fV
                    rw [oH] at mw; simp at mw; subst mw
                    have Dw : oj.op = .store Dv aj x0 := by rw [oI]; exact wz
                    rcases h1 with ⟨_, nH⟩ | ⟨_, _, wA⟩
                    · rw [Dw] at nH
                      simp only [au.step, Option.map_eq_some_iff] at nH
                      obtain ⟨H1, hs1, l7⟩ := nH
                      simp at l7; obtain ⟨_, rfl⟩ := l7
                      unfold bp at hs1
                      split at hs1
                      case h_2 => simp at hs1
                      rename_i b2 o2 To
                      obtain ⟨o3, qB⟩ := h.root 8 j aj (.tmp t) hroot (by omega) b2 o2 To
                      have hsome : (dY l vs (st 0).tmps S ops.size)[t]? = some (.ptr (some (b2, o3))) := by
                        have hun : ∀ j', j' < ops.size → ∀ o', l[j']? = some o' → o'.dst = some t → S j' = decide (j' < k) := by
                          intro j' _ o' ho' hd'
                          obtain ⟨Tp, Tq, Ts, _⟩ := h.ok.bars j' o' ho'
                          exact absurd (by rw [← hd', Ts]) (Ab t rfl Tp (List.mem_of_getElem? Tq))
                        rw [rT l vs (st 0).tmps t S (fun j => decide (j < k)) ops.size hun,
                          zU l vs (st 0).tmps (fun j => decide (j < k)) k ops.size (by omega) (fun j a _ => by simp; omega),
                          rT l vs (st 0).tmps t (fun j => decide (j < k)) (fun _ => true) k (fun j hj _ _ _ => by simp [hj]), full k (by omega)]
                        rw [← JG t (Ab t rfl) j (by omega) (by omega)]
                        simp only [St.ev, List.getD_eq_getElem?_getD] at qB
                        cases hg : (st j).tmps[t]? with
                        | none => rw [hg] at qB; simp [bA] at qB
                        | some z => rw [hg] at qB; simp at qB; rw [qB]
                      obtain ⟨v', _, kM⟩ := nF.get hsome
                      have hne : (st k).H.next ≠ b2 := by
                        intro e
                        cases kM with
                        | ptr oM => rw [hfresh k hk hS b2 (by omega) (by omega)] at oM; simp at oM
                      split at hs1
                      case h_2 => simp at hs1
                      split at hs1 <;> simp at hs1
                      rw [← hs1, ah.eD _ _ _ _ hne]
                      exact mu
                    · rw [wA]; exact mu
          obtain ⟨Hx, rW, hx⟩ : ∃ Hx : ah, Hx.next = (st k).H.next ∧ ∀ b, b < (st k).H.next → Hx.get b = (st q).H.get b :=
            ⟨ah.mk (st k).H.next (st q).H.tr, rfl, fun b hb => by unfold ah.get; rw [if_pos hb, if_pos (by omega)]⟩
          refine JK Hx (Hx.push (.cells cs)) rW (by rw [ah.bK]; omega) (fun b x hb => by rw [← hx b (by have := ah.jm hb; omega)]; exact hb) ?_ (.inl ⟨hw, hstep _ _ rW⟩)
          intro b hb
          rw [ah.bK] at hb
          by_cases e : b = Hx.next
          · subst e
            rw [ah.jU, rW, Tn q (by omega) (Nat.le_refl _)]
          · rw [ah.gi _ _ _ e, hx b (by omega)]
      have zZ : ∀ i, k ≤ i → i < q → ¬ Wr l i := fun i h1 h2 hw => by
        obtain ⟨_, ⟨y, _, _, g⟩ | ⟨_, _, g⟩⟩ := Ds i h1 h2 hw
        case inr => exact kS g
        rcases g with g | ⟨g, _⟩
        · exact kS g
        · exact hnew g
      have l8 := h.agree (i := k) q (by omega) hq zZ
      have Tt := h.agree (i := k + 1) q (by omega) hq (fun i a c => zZ i (by omega) c)
      exact JK (st k).H (st (k + 1)).H rfl rfl (fun b x hx => by rw [l8 b (ah.jm hx)]; exact hx) Tt wj
    | false =>
      have hwk : Wr l k := ⟨o, ho, hp, hb⟩
      have hkq : k = q := by
        rcases Nat.lt_trichotomy k q with g | g | g
        · have := hq1 k g hwk; rw [hS] at this; simp at this
        · exact g
        · exfalso
          obtain ⟨⟨oq, hoq, hpq, mq⟩, qz⟩ := mo (by omega)
          rcases wr q oq hoq hpq mq k o0 oJ (by rw [← hop]; exact hp) (by omega) with this | ⟨this, _⟩ | ⟨_, _, hn, _⟩
          · rw [zX cR we (Dc this g)] at qz
            simp at qz
          · omega
          · obtain ⟨Tu, Tv, Tw, _⟩ := h.ok.bars q oq hoq
            rcases wr k o ho hp hb q Tu Tv (by rw [← hpq, Tw]) (by omega) with this | ⟨_, ⟨y, hla, _⟩ | ⟨hlc, _⟩⟩ | ⟨this, _⟩
            · rw [zX cR we (Dd this g)] at qz
              simp at qz
            · obtain ⟨o1, n1, a1, x1, e1, e2, _⟩ := vX hla
              rw [oJ] at e1; simp at e1; subst e1
              rw [e2] at hn; simp [bG.kF] at hn
            · obtain ⟨o1, e1, e2, _⟩ := De hlc
              rw [oJ] at e1; simp at e1; subst e1
              cases hx : o0.op <;> rw [hx] at e2 hn <;> simp [bG.lu, bG.jF, bG.kF] at e2 hn
            · omega
      subst hkq
      obtain ⟨q', h1, h2, h3, h4⟩ := Db (Wr l) ops.size (ops.size - (k + 1)) (k + 1) (by omega)
      have l8 := h.agree (i := k + 1) q' h1 h2 h3
      have wo : ∀ b, (st k).H.next ≤ b → b < (st (k + 1)).H.next → ρ b = none := hfresh k hk hS
      refine zR hF h.calls bU hl hlk wo nF z6 hy2 (b := o.cQ) (Dl wj) ?_
      intro ρ' v' w' hp' hv
      replace hp' : Post P n0 (iD lim o (st k).H) ρ (st k).H w ρ' (st (k + 1)).H w' := hp'
      have Dq : iD lim o (st k).H = lim := by unfold iD; rw [hb]; rfl
      rw [Dq] at hp'
      have qA : ∀ b L, ρ' b = some L → ρ b = some L ∨ (ρ b = none ∧ b < (st (k + 1)).H.next ∧ (w.heap.size ≤ L.blk ∨ ∃ b0 L0, b0 < (st k).H.next ∧ ρ b0 = some L0 ∧ L0.blk = L.blk)) := by
        intro b L e
        cases hb0 : ρ b with
        | none =>
          obtain ⟨_, g2, g3⟩ := hp'.new b L hb0 e
          refine .inr ⟨rfl, g2, ?_⟩
          rcases g3 with g3 | ⟨b0, L0, _, q2, q3, q4⟩
          · exact .inl g3
          · exact .inr ⟨b0, L0, q2, q3, q4⟩
        | some L0 => have := hp'.ext b L0 hb0; rw [e] at this; simp at this; rw [this]; exact .inl rfl
      obtain ⟨X', x1, x2, x3⟩ := splice (st q').H X (by rw [hX.next]; exact h.mono (i := q') ops.size h2 (Nat.le_refl _))
      have hn1 : (st (k + 1)).H.next ≤ (st q').H.next := h.mono (i := k + 1) q' h1 h2
      have top : ∀ b x, (st q').H.next ≤ b → X'.get b = some x → x ≠ .dead → X.get b = some x := by
        intro b x c hx hd
        have hlt := ah.jm hx
        rw [x1] at hlt
        rw [x3 b c hlt] at hx
        cases hg : X.get b with
        | none => rw [hg] at hx; simp at hx; exact absurd hx.symm hd
        | some y => rw [hg] at hx; simpa using hx
      have up : ∀ b L x, (st (k + 1)).H.next ≤ b → ρ b = some L → X'.get b = some x → x ≠ .dead → X.get b = some x := by
        intro b L x g gL hx hd
        rcases Nat.lt_or_ge b (st q').H.next with c | c
        · rw [x2 b c] at hx
          have find : ∀ j, k + 1 ≤ j → j ≤ q' → b < (st j).H.next → ∃ i, k + 1 ≤ i ∧ i < q' ∧ (st i).H.next ≤ b ∧ b < (st (i + 1)).H.next := by
            intro j
            induction j with
            | zero => intro a; omega
            | succ j ih =>
              intro a1 a2 a3
              by_cases e : k + 1 = j + 1
              · rw [← e] at a3; omega
              · rcases Nat.lt_or_ge b (st j).H.next with c | c
                · exact ih (by omega) (by omega) c
                · exact ⟨j, by omega, by omega, c, a3⟩
          obtain ⟨i, i1, i2, i3, i4⟩ := find q' h1 (Nat.le_refl _) c
          obtain ⟨oi, mm⟩ : ∃ oi, l[i]? = some oi := ⟨l[i]'(by rw [h.ok.len]; omega), List.getElem?_eq_getElem _⟩
          have hpi : oi.op.pure = false := by
            cases hpi : oi.op.pure with
            | false => rfl
            | true =>
              have := ((h.one i oi mm).1.pure hpi).1
              rw [this] at i4; omega
          have hsi : S i = true := by
            cases hs : S i with
            | true => rfl
            | false => have := hfresh i (by omega) hs b i3 i4; rw [gL] at this; simp at this
          rcases hX.early i oi (by omega) (by omega) hsi mm hpi with e | ⟨⟨cs, e1, e2⟩, _⟩
          · rw [e] at i4; omega
          · have hs1 : (st (i + 1)).H.next = (st i).H.next + 1 := by rw [e1]; rfl
            have Tx : b = (st i).H.next := by omega
            subst Tx
            have := h.agree (i := i + 1) q' (by omega) h2 (fun k' a c => h3 k' (by omega) c) (st i).H.next (by omega)
            rw [this, e1, ah.jU] at hx
            rw [e2]; exact hx
        · exact top b x c hx hd
      have wm : tV P n0 ops l st (ins S k) ρ' w' q' X' := by
        refine ⟨hX.rel.merge hp' (fun b L x hb _ hx _ => by rw [x2 b (by omega), l8 b hb] at hx; exact hx)
          (fun b L x hb hL hx hd => ⟨up b L x hb hL hx hd, hp'.frame L.blk (hX.rel.dom b L hL) fun b0 L0 g1 g2 g3 => hX.lone (by omega) (up b L x hb hL hx hd) hd b0 L0 L (by omega) g3 hL⟩) ?_, by rw [x1, hX.next], x2, ?_, ?_, ?_⟩
        · intro b b' L L' x x' c1 c2 c3 c4 c5 c6 c7 c8 _
          have hl' := hX.lone (by omega) (up b' L' x' c2 c4 c6 c8) c8
          rcases qA b L c3 with e | ⟨_, _, e | ⟨b0, L0, q2, q3, q4⟩⟩
          · exact hl' b L L' (by omega) e c4
          · have := hX.rel.dom b' L' c4; omega
          · rw [← q4]; exact hl' b0 L0 L' (by omega) q3 c4
        · intro i o' c1 c2 c3 c4 c5
          have Dr : S i = true := by unfold ins at c3; rw [if_neg (by omega)] at c3; exact c3
          rcases hX.early i o' (by omega) c2 Dr c4 c5 with e | ⟨⟨cs, e1, e2⟩, e3⟩
          · exact .inl e
          · have hge := h.mono (i := q') i c1 (by omega)
            have hlt := ah.jm e2
            refine .inr ⟨⟨cs, e1, by rw [x3 _ hge hlt, e2]; rfl⟩, fun b L L' g1 g2 g3 => ?_⟩
            have hL' : ρ (st i).H.next = some L' := by
              rcases qA _ L' g3 with e | ⟨_, e, _⟩
              · exact e
              · omega
            rcases qA b L g2 with e | ⟨_, _, e | ⟨b0, L0, q2, q3, q4⟩⟩
            · exact e3 b L L' g1 e hL'
            · have := hX.rel.dom _ L' hL'; omega
            · rw [← q4]; exact e3 b0 L0 L' (by omega) q3 hL'
        · intro i o' c1 c2 c3 c4 c5
          exact hX.cQ i o' (by omega) c2 (by unfold ins at c3; rw [if_neg (by omega)] at c3; exact c3) c4 c5
        · intro b x g hx hd
          obtain ⟨i, o', cs, c1, c2, c3, c4, c5, c6, c7⟩ := hX.high b x (by omega) (top b x g hx hd) hd
          refine ⟨i, o', cs, ?_, c2, by unfold ins; split; rfl; exact c3, c4, c5, c6, c7⟩
          rcases Nat.lt_or_ge i q' with c | c
          · have := h.mono (i := i + 1) q' (by omega) h2
            have hs1 : (st (i + 1)).H.next = (st i).H.next + 1 := by rw [c6]; rfl
            omega
          · exact c
      refine hK ρ' _ w' ⟨hclosed, Dn ρ' v' hp'.ext hv, Dp v', ⟨q', h2, fun i hi hw => ?_, fun hlt => ⟨h4 hlt, ?_⟩, X', wm⟩, fun i hi hs b g1 g2 => ?_, ?_⟩
      · unfold ins; split
        · rfl
        · rename_i hne
          rcases Nat.lt_or_ge i k with c | c
          · exact hq1 i c hw
          · exact absurd hw (h3 i (by omega) hi)
      · obtain ⟨oq, hoq, hpq, mq⟩ := h4 hlt
        unfold ins; rw [if_neg (by omega)]
        cases hs : S q' with
        | false => rfl
        | true => have := hX.cQ q' oq (by omega) hlt hs hoq hpq; rw [mq] at this; simp at this
      · have hik : i ≠ k := by rintro rfl; unfold ins at hs; simp at hs
        have hs' : S i = false := by unfold ins at hs; rw [if_neg hik] at hs; exact hs
        cases hb' : ρ' b with
        | none => rfl
        | some L =>
          exfalso
          have hn := hfresh i hi hs' b g1 g2
          have := hp'.new b L hn hb'
          rcases Nat.lt_or_ge i k with c | c
          · have := h.mono (i := i + 1) k (by omega) (by omega); omega
          · have := h.mono (i := k + 1) i (by omega) (by omega); omega
      · exact hfr.step (lim' := lim) (Nat.le_refl _) jt (h.mono (i := 0) k (by omega) (by omega)) (h.mono (i := k + 1) ops.size (by omega) (Nat.le_refl _)) hp'
end
end Go.au
