/- A run does not hang on blocks that it does not touch: what it answers where they are dead, it answers whatever they hold. -/
import Derived.Test.YtnlimogbokkfpaaGreatChsB1
set_option linter.unusedSimpArgs false
set_option linter.unusedVariables false
namespace Go.Ahs
structure Alive (W H : Heap) : Prop where
 next : H.next = W.next
 get : ∀ b x, W.get b = some x → x ≠ .dead → H.get b = some x
section
variable {W H W' : Heap} {R : Caller} {lim : Nat} {v : AVal}
theorem Alive.refl (H : Heap) : Alive H H := ⟨rfl, fun _ _ h _ => h⟩
theorem Alive.trans {X : Heap} (h : Alive W H) (h' : Alive H X) : Alive W X := ⟨h'.next.trans h.next, fun b x e hx => h'.get b x (h.get b x e hx) hx⟩
theorem Alive.cells (h : Alive W H) {b : Nat} {cs : List AVal} (e : W.cells b = some cs) : H.cells b = some cs := Heap.cells_eq.2 (h.get b _ (Heap.cells_eq.1 e) (by simp))
theorem Alive.push (h : Alive W H) (x : Blk) : Alive (W.push x) (H.push x) := by
 refine ⟨by rw [Heap.next_push, Heap.next_push, h.next], fun b y e hy => ?_⟩
 rw [Heap.get_push] at e ⊢
 rw [h.next]
 split at e
 ·rename_i hb; rw [if_pos hb]; exact e
 ·rename_i hb; rw [if_neg hb]; exact h.get b y e hy
theorem Alive.set (h : Alive W H) (b : Nat) (x : Blk) : Alive (W.set b x) (H.set b x) := by
 refine ⟨by rw [Heap.next_set, Heap.next_set, h.next], fun c y e hy => ?_⟩
 rw [Heap.get_set] at e ⊢
 rw [h.next]
 split at e
 ·rename_i hb; rw [if_pos hb]; exact e
 ·rename_i hb; rw [if_neg hb]; exact h.get c y e hy
def UpR (R R' : Caller) : Prop := ∀ lim tg args W H v W', Alive W H → R lim tg args W = some (v, W') → ∃ H', R' lim tg args H = some (v, H') ∧ Alive W' H'
def Up (o : Option (AVal × Heap)) (o' : Option (AVal × Heap)) : Prop := ∀ v W', o = some (v, W') → ∃ H', o' = some (v, H') ∧ Alive W' H'
theorem Up.val (h : Alive W H) {o o' : Option AVal} (ho : ∀ v, o = some v → o' = some v) : Up (val W o) (val H o') := by
 intro v W' e
 unfold Ahs.val at e ⊢
 rw [Option.map_eq_some_iff] at e
 obtain ⟨a, h1, h2⟩ := e
 simp at h2; obtain ⟨rfl, rfl⟩ := h2
 exact ⟨H, by rw [ho a h1]; rfl, h⟩
theorem Up.same (h : Alive W H) (o : Option AVal) : Up (Ahs.val W o) (Ahs.val H o) := Up.val h fun _ e => e
theorem Up.one (h : Alive W H) (v : AVal) : Up (some (v, W)) (some (v, H)) := by
 intro v' W' e; simp at e; obtain ⟨rfl, rfl⟩ := e; exact ⟨H, rfl, h⟩
theorem Up.none (o : Option (AVal × Heap)) : Up Option.none o := by intro v W' e; simp at e
theorem Up.hmap {o o' : Option Heap} (ho : ∀ W', o = some W' → ∃ H', o' = some H' ∧ Alive W' H') : Up (o.map fun H => (und, H)) (o'.map fun H => (und, H)) := by
 intro v W' e
 rw [Option.map_eq_some_iff] at e
 obtain ⟨X, h1, h2⟩ := e
 simp at h2; obtain ⟨rfl, rfl⟩ := h2
 obtain ⟨H', h3, h4⟩ := ho _ h1
 exact ⟨H', by rw [h3]; rfl, h4⟩
theorem aload_up (h : Alive W H) {g : Option Nat} {a : AVal} (e : aload W g a = some v) : aload H g a = some v := by
 unfold aload at e ⊢
 split at e
 ·rename_i b o
  cases hc : W.cells b with
  | none => rw [hc] at e; simp at e
  | some cs =>
   rw [hc] at e
   rw [h.cells hc]
   exact e
 ·simp at e
theorem astore_up (h : Alive W H) {n : Nat} {a x : AVal} (e : astore lim W n a x = some W') : ∃ H', astore lim H n a x = some H' ∧ Alive W' H' := by
 unfold astore at e ⊢
 split at e
 ·split at e
  ·rename_i h1
   split at e <;> simp at e
   rename_i hc
   subst e
   exact ⟨_, by simp only [h.cells h1]; rw [if_pos hc], h.set _ _⟩
  ·simp at e
 ·simp at e
theorem source_up (h : Alive W H) {sz : Nat} {x : AVal} {r : Nat × List AVal} (e : source W sz x = some r) : source H sz x = some r := by
 unfold source at e ⊢
 split at e
 ·exact e
 ·split at e
  ·rename_i hn; rw [if_pos hn]; exact e
  ·rename_i hn
   rw [if_neg hn]
   split at e
   ·rename_i h1; rw [h.cells h1]; exact e
   ·simp at e
 ·exact e
 ·simp at e
theorem news_up (h : Alive W H) {zero : List AVal} {zeros : Bool} {x : AVal} {r : Nat × List AVal} : (if zeros = true then (match x with
   | .int .i64 l => if 0 ≤ l ∧ l ≤ 140737488355328 then some (l.toNat, rep l.toNat zero) else Option.none
   | _ => Option.none)
  else source W zero.length x) = some r → (if zeros = true then (match x with
   | .int .i64 l => if 0 ≤ l ∧ l ≤ 140737488355328 then some (l.toNat, rep l.toNat zero) else Option.none
   | _ => Option.none)
  else source H zero.length x) = some r := by
 intro e
 cases zeros with
 | true => exact e
 | false => exact source_up h e
theorem aappend_up (h : Alive W H) {zero : List AVal} {bytes : Nat} {zeros : Bool} {s x : AVal} : Up (aappend lim W zero bytes zeros s x) (aappend lim H zero bytes zeros s x) := by
 intro v W' e
 unfold aappend at e ⊢
 simp only [Option.bind_eq_bind, Option.bind_eq_some_iff] at e ⊢
 obtain ⟨⟨m, new⟩, h1, e⟩ := e
 have h1' := news_up h h1
 refine (?_ : ∃ H', (∃ a, _ = some a ∧ _ = some (v, H')) ∧ Alive W' H')
 simp only at e
 split at e
 ·simp at e
 ·rename_i hc
  split at e
  case h_2 => simp at e
  rename_i a n c
  split at e
  ·rename_i hm
   simp at e; obtain ⟨rfl, rfl⟩ := e
   exact ⟨H, ⟨(m, new), h1', by (try simp only); rw [if_neg hc]; (try simp only); rw [if_pos hm]⟩, h⟩
  ·rename_i hm
   split at e
   ·simp at e
   ·rename_i hr
    split at e
    ·split at e <;> simp at e
     rename_i hn
     obtain ⟨rfl, rfl⟩ := e
     exact ⟨_, ⟨(m, new), h1', by (try simp only); rw [if_neg hc]; (try simp only); rw [if_neg hm, if_neg hr]; (try simp only); rw [if_pos hn, h.next]⟩, h.push _⟩
    ·rename_i b o k
     simp only [Option.bind_eq_some_iff] at e
     obtain ⟨cs, h2, e⟩ := e
     split at e
     ·rename_i hk
      split at e <;> simp at e
      rename_i hl
      obtain ⟨rfl, rfl⟩ := e
      exact ⟨_, ⟨(m, new), h1', by (try simp only); rw [if_neg hc]; (try simp only); rw [if_neg hm, if_neg hr]; simp only [h.cells h2, Option.bind_some]; rw [if_pos hk, if_pos hl]⟩, h.set _ _⟩
     ·rename_i hk
      simp only [Option.bind_eq_some_iff] at e
      obtain ⟨old, h3, e⟩ := e
      split at e <;> simp at e
      rename_i hl
      obtain ⟨rfl, rfl⟩ := e
      exact ⟨_, ⟨(m, new), h1', by (try simp only); rw [if_neg hc]; (try simp only); rw [if_neg hm, if_neg hr]; simp only [h.cells h2, Option.bind_some]; rw [if_neg hk]; simp only [h3, Option.bind_some]; rw [if_pos hl, h.next]⟩, h.push _⟩
    ·rename_i b o ez kn
     simp only [Option.bind_eq_some_iff] at e
     obtain ⟨cs, h2, e⟩ := e
     split at e
     ·rename_i hl
      split at e
      ·rename_i hk
       simp at e
       obtain ⟨rfl, rfl⟩ := e
       exact ⟨_, ⟨(m, new), h1', by (try simp only); rw [if_neg hc]; (try simp only); rw [if_neg hm, if_neg hr]; simp only [h.cells h2, Option.bind_some]; rw [if_pos hl, if_pos hk]⟩, h.set _ _⟩
      ·rename_i hk
       split at e <;> simp at e
       rename_i hq
       obtain ⟨rfl, rfl⟩ := e
       exact ⟨_, ⟨(m, new), h1', by (try simp only); rw [if_neg hc]; (try simp only); rw [if_neg hm, if_neg hr]; simp only [h.cells h2, Option.bind_some]; rw [if_pos hl, if_neg hk, if_pos hq, h.next]⟩, (h.set _ _).push _⟩
     ·simp at e
    ·simp at e
theorem acopy_up (h : Alive W H) {sz : Nat} {d s : AVal} : Up (acopy lim W sz d s) (acopy lim H sz d s) := by
 intro v W' e
 unfold acopy at e ⊢
 split at e
 ·rename_i a n c
  simp only [Option.bind_eq_bind, Option.bind_eq_some_iff] at e
  obtain ⟨⟨m, new⟩, h1, e⟩ := e
  simp only [source_up h h1, Option.bind_eq_bind, Option.bind_some]
  simp only at e
  split at e
  ·rename_i hk
   simp at e; obtain ⟨rfl, rfl⟩ := e
   exact ⟨H, by rw [if_pos hk], h⟩
  ·rename_i hk
   rw [if_neg hk]
   split at e
   ·simp only [Option.bind_eq_some_iff] at e
    obtain ⟨cs, h2, e⟩ := e
    simp only [h.cells h2, Option.bind_some]
    split at e <;> simp at e
    rename_i hl
    obtain ⟨rfl, rfl⟩ := e
    exact ⟨_, by rw [if_pos hl], h.set _ _⟩
   ·simp at e
 ·simp at e
theorem bytesToStr_up (h : Alive W H) {x : AVal} (e : abytesToStr W x = some v) : abytesToStr H x = some v := by
 unfold abytesToStr at e ⊢
 split at e
 ·exact e
 ·simp only [Option.bind_eq_bind, Option.bind_eq_some_iff] at e ⊢
  obtain ⟨cs, h1, e⟩ := e
  exact ⟨cs, h.cells h1, e⟩
 ·simp at e
theorem mapEs_up (h : Alive W H) {m : AVal} {es : List (AVal × AVal)} (e : mapEs W m = some es) : mapEs H m = some es := by
 unfold mapEs at e ⊢
 split at e
 ·exact e
 ·split at e
  ·rename_i h1
   rw [h.get _ _ h1 (by simp)]; exact e
  ·simp at e
 ·simp at e
theorem lookup_up (h : Alive W H) {g : Bool} {ls : List Leaf} {z : AVal} {ok : Bool} {m k : AVal} (e : alookup W g ls z ok m k = some v) : alookup H g ls z ok m k = some v := by
 unfold alookup at e ⊢
 split at e
 ·rename_i es h1
  rw [mapEs_up h h1]; exact e
 ·simp at e
theorem mapLen_up (h : Alive W H) {m : AVal} (e : amapLen W m = some v) : amapLen H m = some v := by
 unfold amapLen at e ⊢
 rw [Option.map_eq_some_iff] at e
 obtain ⟨es, h1, h2⟩ := e
 rw [mapEs_up h h1, ← h2]; rfl
theorem mapUpdate_up (h : Alive W H) {g : Bool} {ls : List Leaf} {m k x : AVal} (e : amapUpdate lim W g ls m k x = some W') : ∃ H', amapUpdate lim H g ls m k x = some H' ∧ Alive W' H' := by
 unfold amapUpdate at e ⊢
 split at e
 ·split at e
  ·rename_i h1
   split at e <;> simp at e
   rename_i hc
   subst e
   exact ⟨_, by simp only [h.get _ _ h1 (by simp)]; rw [if_pos hc], h.set _ _⟩
  ·simp at e
 ·simp at e
theorem mapPlace_up (h : Alive W H) {g : Bool} {ls : List Leaf} {z m k : AVal} : Up (amapEntry lim W g ls z m k) (amapEntry lim H g ls z m k) := by
 intro v W' e
 unfold amapEntry at e ⊢
 split at e
 ·split at e
  ·rename_i h1
   simp only [h.get _ _ h1 (by simp)]
   split at e
   ·rename_i hc
    rw [if_pos hc]
    split at e
    ·rename_i h2
     try simp only [h2]
     split at e <;> simp at e
     rename_i h3
     obtain ⟨rfl, rfl⟩ := e
     exact ⟨_, by simp only [h3], h.set _ _⟩
    ·rename_i h2
     try simp only [h2]
     simp at e
     obtain ⟨rfl, rfl⟩ := e
     exact ⟨_, rfl, h.set _ _⟩
   ·simp at e
  ·simp at e
 ·simp at e
theorem placeStore_up (h : Alive W H) {g : Bool} {ls : List Leaf} {m s x : AVal} (e : aentryStore lim W g ls m s x = some W') : ∃ H', aentryStore lim H g ls m s x = some H' ∧ Alive W' H' := by
 unfold aentryStore at e ⊢
 split at e
 ·split at e
  ·rename_i h1
   simp only [h.get _ _ h1 (by simp)]
   split at e
   ·rename_i h2
    try simp only [h2]
    split at e <;> simp at e
    rename_i hc
    subst e
    exact ⟨_, by rw [if_pos hc], h.set _ _⟩
   ·simp at e
  ·simp at e
 ·simp at e
theorem mapDelete_up (h : Alive W H) {g : Bool} {ls : List Leaf} {m k : AVal} (e : amapDelete lim W g ls m k = some W') : ∃ H', amapDelete lim H g ls m k = some H' ∧ Alive W' H' := by
 unfold amapDelete at e ⊢
 split at e
 ·split at e <;> simp at e
  rename_i hc
  subst e
  exact ⟨H, by rw [if_pos hc], h⟩
 ·split at e
  ·rename_i h1
   split at e <;> simp at e
   rename_i hc
   subst e
   exact ⟨_, by simp only [h.get _ _ h1 (by simp)]; rw [if_pos hc], h.set _ _⟩
  ·simp at e
 ·simp at e
theorem mapClear_up (h : Alive W H) {m : AVal} (e : amapClear lim W m = some W') : ∃ H', amapClear lim H m = some H' ∧ Alive W' H' := by
 unfold amapClear at e ⊢
 split at e
 ·simp at e; subst e; exact ⟨H, rfl, h⟩
 ·split at e
  ·rename_i h1
   split at e <;> simp at e
   rename_i hc
   subst e
   exact ⟨_, by simp only [h.get _ _ h1 (by simp)]; rw [if_pos hc], h.set _ _⟩
  ·simp at e
 ·simp at e
theorem clear_up (h : Alive W H) {z : List AVal} {x : AVal} (e : aclear lim W z x = some W') : ∃ H', aclear lim H z x = some H' ∧ Alive W' H' := by
 unfold aclear at e ⊢
 split at e
 ·split at e <;> simp at e
  rename_i hn
  subst e
  exact ⟨H, by rw [if_pos hn], h⟩
 ·split at e
  ·rename_i hn
   simp at e; subst e
   exact ⟨H, by rw [if_pos hn], h⟩
  ·rename_i hn
   rw [if_neg hn]
   split at e
   ·rename_i h1
    simp only [h.cells h1]
    split at e <;> simp at e
    rename_i hc
    subst e
    exact ⟨_, by rw [if_pos hc], h.set _ _⟩
   ·simp at e
 ·simp at e
theorem step_up {R' : Caller} (hR : UpR R R') (h : Alive W H) {ev : Opd → AVal} (op : Aop) : Up (step R lim ev W op) (step R' lim ev H op) := by
 cases op
 case load g a => exact Up.val h fun v e => aload_up h e
 case store n a x => exact Up.hmap fun W' e => astore_up h e
 case append z b zs s x => exact aappend_up h
 case copy sz d s => exact acopy_up h
 case bytesToStr x => exact Up.val h fun v e => bytesToStr_up h e
 case lookup g ls z ok m k => exact Up.val h fun v e => lookup_up h e
 case mapLen m => exact Up.val h fun v e => mapLen_up h e
 case mapUpdate g ls m k x => exact Up.hmap fun W' e => mapUpdate_up h e
 case mapPlace g ls z m k => exact mapPlace_up h
 case placeStore g ls m s x => exact Up.hmap fun W' e => placeStore_up h e
 case mapDelete g ls m k => exact Up.hmap fun W' e => mapDelete_up h e
 case mapClear m => exact Up.hmap fun W' e => mapClear_up h e
 case clearSl z x => exact Up.hmap fun W' e => clear_up h e
 case call f xs => exact fun v W' e => hR _ _ _ _ _ _ _ h e
 case callv x xs =>
  simp only [step]
  generalize ev x = y
  cases y <;> first | exact .none _ | exact fun v W' e => hR _ _ _ _ _ _ _ h e
 case invoke tab x xs =>
  simp only [step]
  generalize ev x = y
  cases y <;> try exact .none _
  rename_i t v
  dsimp only
  cases tab.lookup t with
  | none => exact .none _
  | some f => exact fun v W' e => hR _ _ _ _ _ _ _ h e
 case alloc z =>
  intro v W' e
  simp only [step, Option.some.injEq, Prod.mk.injEq] at e ⊢
  obtain ⟨rfl, rfl⟩ := e
  exact ⟨_, ⟨by rw [h.next], rfl⟩, h.push _⟩
 case box x =>
  intro v W' e
  simp only [step] at e ⊢
  split at e <;> simp at e
  rename_i hc
  obtain ⟨rfl, rfl⟩ := e
  exact ⟨_, by rw [if_pos hc, h.next], h.push _⟩
 case buildSlice z n ps =>
  intro v W' e
  simp only [step, Option.map_eq_some_iff] at e ⊢
  obtain ⟨cs, h1, h2⟩ := e
  simp at h2; obtain ⟨rfl, rfl⟩ := h2
  exact ⟨_, ⟨cs, h1, by rw [h.next]⟩, h.push _⟩
 case strToBytes x =>
  intro v W' e
  simp only [step, strToBytes] at e ⊢
  split at e
  ·split at e <;> simp at e
   rename_i hc
   obtain ⟨rfl, rfl⟩ := e
   exact ⟨_, by rw [if_pos hc, h.next], h.push _⟩
  ·simp at e
 case makeSlice z b l c =>
  intro v W' e
  simp only [step, amakeSlice] at e ⊢
  split at e
  ·split at e <;> simp at e
   rename_i hc
   obtain ⟨rfl, rfl⟩ := e
   exact ⟨_, by rw [if_pos hc, h.next], h.push _⟩
  ·simp at e
 case makeMap hint =>
  intro v W' e
  simp only [step] at e ⊢
  split at e <;> simp at e
  rename_i hc
  obtain ⟨rfl, rfl⟩ := e
  exact ⟨_, by rw [if_pos hc, h.next], h.push _⟩
 case pick c a b =>
  simp only [step]
  generalize ev c = y
  cases y <;> first | exact .none _ | exact .one h _
 case nilCheck x =>
  simp only [step]
  generalize ev x = y
  rcases y with _ | _ | _ | (_ | _) | _ | _ | _ | _ | _ | _ | _ | _ | _ | _ | _ <;> first | exact .none _ | exact .one h _
 case convInt k x =>
  simp only [step]
  generalize ev x = y
  cases y <;> first | exact .none _ | exact .one h _
 case convStr x =>
  simp only [step]
  generalize ev x = y
  cases y <;> first | exact .none _ | exact .one h _
 case fieldAddr x off =>
  simp only [step]
  generalize ev x = y
  rcases y with _ | _ | _ | (_ | _) | _ | _ | _ | _ | _ | _ | _ | _ | _ | _ | _ <;> first | exact .none _ | exact .one h _
 case field x off g =>
  simp only [step]
  generalize ev x = y
  cases y <;> first | exact .none _ | exact .same h _
 case extract x i =>
  simp only [step]
  generalize ev x = y
  cases y <;> first | exact .none _ | exact .same h _
 case bound n x =>
  simp only [step]
  generalize ev x = y
  cases y <;> first | exact .none _ | exact .one h _
 case nilFn tab x =>
  simp only [step]
  generalize ev x = y
  cases y <;> try first | exact .none _ | exact .one h _
  all_goals
   dsimp only
   split
   ·exact .one h _
   ·exact .none _
 all_goals first | exact .same h _ | exact .one h _ | exact .none _
theorem kept_up {o : AOper} {T : List AVal} {W2 H2 : Heap} (h : Alive W H) (h2 : Alive W2 H2) (e : o.kept T W W2 = true) : o.kept T H H2 = true := by
 unfold AOper.kept at e ⊢
 rw [List.all_eq_true] at e ⊢
 intro y hy
 have := e y hy
 split at this
 ·rename_i b hb
  try simp only [hb]
  cases hc : W.get b with
  | none => rw [hc] at this; simp [sameB] at this
  | some x =>
   cases hc2 : W2.get b with
   | none => rw [hc, hc2] at this; cases x <;> simp [sameB] at this
   | some y =>
    rw [hc, hc2] at this
    cases x <;> cases y <;> simp [sameB] at this
    rw [h.get b _ hc (by simp), h2.get b _ hc2 (by simp)]
    exact this
 ·rename_i hb; simp only [hb]
def UpS (o o' : Option St) : Prop := ∀ s1, o = some s1 → ∃ H1, o' = some ⟨s1.tmps, H1⟩ ∧ Alive s1.H H1
theorem execOp_up {R' : Caller} (hR : UpR R R') (o : AOper) (T : List AVal) (h : Alive W H) : UpS (execOp R lim o ⟨T, W⟩) (execOp R' lim o ⟨T, H⟩) := by
 intro s1 e
 unfold execOp lateCallX at e ⊢
 simp only [h.next] at e ⊢
 split at e
 ·rename_i c1
  rw [if_pos c1]
  split at e
  ·rename_i c2
   rw [if_pos c2]
   split at e
   ·rename_i c3
    rw [if_pos c3]
    split at e
    ·rename_i v W1 hs
     obtain ⟨H1, h1, h2⟩ := step_up hR h o.op v W1 hs
     split at e
     ·rename_i c4
      simp at e; subst e
      exact ⟨H1, by simp only [h1, kept_up h h2 c4, if_true], h2⟩
     ·simp at e
    ·simp at e
   ·simp at e
  ·rename_i c2
   rw [if_neg c2]
   split at e
   ·rename_i v W1 hs
    obtain ⟨H1, h1, h2⟩ := step_up hR h o.op v W1 hs
    simp at e; subst e
    exact ⟨H1, by simp only [h1], h2⟩
   ·simp at e
 ·rename_i c1
  rw [if_neg c1]
  simp at e; subst e
  exact ⟨H, rfl, h⟩
theorem execOps_up {R' : Caller} (hR : UpR R R') : ∀ (os : List AOper) (T : List AVal) {W H : Heap}, Alive W H → UpS (execOps R lim os ⟨T, W⟩) (execOps R' lim os ⟨T, H⟩)
 | [], T, W, H, h => by
  intro s1 e
  simp [execOps] at e; subst e
  exact ⟨H, rfl, h⟩
 | o :: os, T, W, H, h => by
  intro s1 e
  unfold execOps at e ⊢
  split at e
  ·rename_i s2 h1
   obtain ⟨H2, h2, h3⟩ := execOp_up hR o T h s2 h1
   rw [h2]
   exact execOps_up hR os s2.tmps h3 s1 e
  ·simp at e
def UpX (o o' : Option (Ex × St)) : Prop := ∀ ex s1, o = some (ex, s1) → ∃ H1, o' = some (ex, ⟨s1.tmps, H1⟩) ∧ Alive s1.H H1
theorem loopN_up {b b' : St → Option (Ex × St)} (hb : ∀ (T : List AVal) {W H : Heap}, Alive W H → UpX (b ⟨T, W⟩) (b' ⟨T, H⟩)) : ∀ (n : Nat) (T : List AVal) {W H : Heap}, Alive W H → UpX (loopN b n ⟨T, W⟩) (loopN b' n ⟨T, H⟩)
 | 0, T, W, H, h => fun ex s1 e => by simp [loopN] at e
 | n + 1, T, W, H, h => by
  intro ex s1 e
  unfold loopN at e ⊢
  cases hw : b ⟨T, W⟩ with
  | none => rw [hw] at e; simp at e
  | some p =>
   obtain ⟨ex2, s2⟩ := p
   obtain ⟨H2, h2, h3⟩ := hb T h ex2 s2 hw
   rw [hw] at e
   rw [h2]
   cases ex2 with
   | norm => exact loopN_up hb n s2.tmps h3 ex s1 e
   | exit id => simp at e; obtain ⟨rfl, rfl⟩ := e; exact ⟨H2, rfl, h3⟩
   | ret => simp at e; obtain ⟨rfl, rfl⟩ := e; exact ⟨H2, rfl, h3⟩
theorem exec_up {R' : Caller} (hR : UpR R R') {n : Nat} : ∀ (c : ACode) (T : List AVal) {W H : Heap}, Alive W H → UpX (exec R lim n c ⟨T, W⟩) (exec R' lim n c ⟨T, H⟩)
 | .skip, T, W, H, h => fun ex s1 e => by simp [exec] at e; obtain ⟨rfl, rfl⟩ := e; exact ⟨H, rfl, h⟩
 | .exit id, T, W, H, h => fun ex s1 e => by simp [exec] at e; obtain ⟨rfl, rfl⟩ := e; exact ⟨H, rfl, h⟩
 | .ret, T, W, H, h => fun ex s1 e => by simp [exec] at e; obtain ⟨rfl, rfl⟩ := e; exact ⟨H, rfl, h⟩
 | .region os, T, W, H, h => by
  intro ex s1 e
  simp only [exec, Option.map_eq_some_iff] at e ⊢
  obtain ⟨s2, h1, h2⟩ := e
  simp at h2; obtain ⟨rfl, rfl⟩ := h2
  obtain ⟨H1, h3, h4⟩ := execOps_up hR os T h s2 h1
  exact ⟨H1, ⟨_, h3, rfl⟩, h4⟩
 | .seq a b, T, W, H, h => by
  intro ex s1 e
  unfold exec at e ⊢
  cases hw : exec R lim n a ⟨T, W⟩ with
  | none => rw [hw] at e; simp at e
  | some p =>
   obtain ⟨ex2, s2⟩ := p
   obtain ⟨H2, h2, h3⟩ := exec_up hR a T h ex2 s2 hw
   rw [hw] at e
   rw [h2]
   cases ex2 with
   | norm => exact exec_up hR b s2.tmps h3 ex s1 e
   | exit id => simp at e; obtain ⟨rfl, rfl⟩ := e; exact ⟨H2, rfl, h3⟩
   | ret => simp at e; obtain ⟨rfl, rfl⟩ := e; exact ⟨H2, rfl, h3⟩
 | .cond c a b, T, W, H, h => by
  intro ex s1 e
  unfold exec at e ⊢
  split at e
  ·rename_i t hc
   simp only [hc]
   split at e
   ·rename_i ht; rw [if_pos ht]; exact exec_up hR a T h ex s1 e
   ·rename_i ht; rw [if_neg ht]; exact exec_up hR b T h ex s1 e
  ·simp at e
 | .block id body, T, W, H, h => by
  intro ex s1 e
  unfold exec at e ⊢
  cases hw : exec R lim n body ⟨T, W⟩ with
  | none => rw [hw] at e; simp at e
  | some p =>
   obtain ⟨ex2, s2⟩ := p
   obtain ⟨H2, h2, h3⟩ := exec_up hR body T h ex2 s2 hw
   rw [hw] at e
   rw [h2]
   cases ex2 with
   | norm => simp at e; obtain ⟨rfl, rfl⟩ := e; exact ⟨H2, rfl, h3⟩
   | exit i =>
    simp only at e ⊢
    split at e
    ·rename_i hi
     simp at e; obtain ⟨rfl, rfl⟩ := e
     exact ⟨H2, by rw [if_pos hi], h3⟩
    ·rename_i hi
     simp at e; obtain ⟨rfl, rfl⟩ := e
     exact ⟨H2, by rw [if_neg hi], h3⟩
   | ret => simp at e; obtain ⟨rfl, rfl⟩ := e; exact ⟨H2, rfl, h3⟩
 | .loop body, T, W, H, h => loopN_up (fun T W H h => exec_up hR body T h) n T h
 | .ranges g ps asg body, T, W, H, h => by
  intro ex s1 e
  unfold exec at e ⊢
  split at e
  ·rename_i hp
   rw [if_pos hp]
   split at e
   ·rename_i f first captured hg
    simp only [hg, h.next]
    cases hw : R lim (.fn f) (first ++ [.yl W.next] ++ captured) (W.push (.loop ⟨.ready, none, T, ps, asg, body⟩)) with
    | none => rw [hw] at e; simp at e
    | some p =>
     obtain ⟨v1, W1⟩ := p
     obtain ⟨H1, h1, h2⟩ := hR _ _ _ _ _ _ _ (h.push _) hw
     rw [hw] at e
     rw [h1]
     simp only at e ⊢
     split at e
     ·rename_i q
      simp at e; obtain ⟨rfl, rfl⟩ := e
      exact ⟨_, by rw [h2.get _ _ q (by simp)], h2.set _ _⟩
     ·rename_i q
      simp at e; obtain ⟨rfl, rfl⟩ := e
      exact ⟨_, by rw [h2.get _ _ q (by simp)], h2.set _ _⟩
     ·simp at e
   ·simp at e
  ·simp at e
theorem round_up {ex ex' : ACode → St → Option (Ex × St)} (hx : ∀ (c : ACode) (T : List AVal) {W H : Heap}, Alive W H → UpX (ex c ⟨T, W⟩) (ex' c ⟨T, H⟩)) {b : Nat} {args : List AVal} (h : Alive W H) : Up (roundF ex lim b args W) (roundF ex' lim b args H) := by
 intro v W' e
 unfold roundF at e ⊢
 split at e
 ·rename_i r hr
  rw [h.get _ _ hr (by simp)]
  simp only
  split at e
  ·rename_i hc
   rw [if_pos hc]
   split at e
   ·rename_i s1 h1
    obtain ⟨H1, h2, h3⟩ := hx _ _ h _ _ h1
    rw [h2]
    simp only
    split at e
    ·rename_i hr1
     rw [h3.get _ _ hr1 (by simp)]
     simp only
     split at e
     ·rename_i e2 s2 h4
      obtain ⟨H2, h5, h6⟩ := hx _ _ (h3.set _ _) _ _ h4
      rw [h5]
      simp only
      split at e
      ·rename_i r2 hr2
       rw [h6.get _ _ hr2 (by simp)]
       simp only
       split at e
       ·simp at e; obtain ⟨rfl, rfl⟩ := e
        exact ⟨_, rfl, h6.set _ _⟩
       ·rename_i hne
        simp at e; obtain ⟨rfl, rfl⟩ := e
        cases e2 with
        | norm => exact absurd rfl hne
        | exit id => exact ⟨_, rfl, h6.set _ _⟩
        | ret => exact ⟨_, rfl, h6.set _ _⟩
      ·simp at e
     ·simp at e
    ·simp at e
   ·simp at e
  ·simp at e
 ·simp at e
end
def UpAp (ap : FuncId → Option AFn) : Prop := ∀ f g, ap f = some (.prim g) → ∀ lim args W H v W', Alive W H → g lim args W = some (v, W') → ∃ H', g lim args H = some (v, H') ∧ Alive W' H'
theorem runT_up {ap : FuncId → Option AFn} (hap : UpAp ap) : ∀ n, UpR (runT ap n) (runT ap n)
 | 0 => fun lim tg args W H v W' h e => by cases tg <;> simp [runT] at e
 | n + 1 => fun lim tg args W H v W' h e => by
  cases tg with
  | yl b => exact round_up (fun c T W H h => exec_up (runT_up hap n) c T h) h v W' e
  | fn f =>
   simp only [runT] at e ⊢
   split at e
   ·rename_i af haf
    cases hw : exec (runT ap n) lim n af.body ⟨enterF af args, W⟩ with
    | none => rw [hw] at e; simp at e
    | some p =>
     obtain ⟨ex, s1⟩ := p
     obtain ⟨H1, h1, h2⟩ := exec_up (runT_up hap n) af.body (enterF af args) h ex s1 hw
     rw [hw] at e
     rw [h1]
     have fin : leaveF af s1 = some (v, W') → ∃ H', leaveF af ⟨s1.tmps, H1⟩ = some (v, H') ∧ Alive W' H' := by
      intro e
      unfold leaveF at e ⊢
      rw [Option.map_eq_some_iff] at e
      obtain ⟨vs, q1, q2⟩ := e
      simp at q2; obtain ⟨rfl, rfl⟩ := q2
      refine ⟨H1, ?_, h2⟩
      have : ∀ (rs : List ARes) (vs : List AVal), resAll s1 rs = some vs → resAll ⟨s1.tmps, H1⟩ rs = some vs := by
       intro rs
       induction rs with
       | nil => intro vs h; exact h
       | cons r rs ih =>
        intro vs h
        unfold resAll at h ⊢
        split at h
        ·rename_i v1 vs1 e1 e2
         have : resOf ⟨s1.tmps, H1⟩ r = some v1 := by
          cases r with
          | tmp t => exact e1
          | cell t g => exact aload_up h2 e1
         rw [this, ih _ e2]
         exact h
        ·simp at h
      rw [this _ _ q1]; rfl
     cases ex with
     | exit id => simp at e
     | norm => exact fin e
     | ret => exact fin e
   ·rename_i g hg
    exact hap f g hg lim args W H v W' h e
   ·simp at e
end Go.Ahs
