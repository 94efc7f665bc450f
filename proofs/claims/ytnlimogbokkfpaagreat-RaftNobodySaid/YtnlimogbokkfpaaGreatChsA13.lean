/- What an operation leaves alone; what it looks at. -/
import Derived.Test.YtnlimogbokkfpaaGreatChsA12
set_option linter.unusedSimpArgs false
set_option linter.unusedVariables false
namespace Go.Ahs
def Keeps (R : Caller) : Prop :=
  ∀ lim f args H v H', lim ≤ H.next → R lim f args H = some (v, H') → H.next ≤ H'.next ∧ ∀ b, b < lim → H'.get b = H.get b
section
variable {R : Caller} {lim : Nat} {ev ev2 : Opd → AVal} {H H' : Heap} {v : AVal}
theorem keep_push (x : Blk) (hl : lim ≤ H.next) : H.next ≤ (H.push x).next ∧ ∀ b, b < lim → (H.push x).get b = H.get b :=
  ⟨by rw [Heap.next_push]; omega, fun b hb => Heap.get_push_old _ _ _ (by omega)⟩
theorem keep_set (x : Blk) {c : Nat} (hc : lim ≤ c) : H.next ≤ (H.set c x).next ∧ ∀ b, b < lim → (H.set c x).get b = H.get b :=
  ⟨Nat.le_refl _, fun b hb => Heap.get_set_other _ _ _ _ (by omega)⟩
theorem keep_same : H.next ≤ H.next ∧ ∀ b, b < lim → H.get b = H.get b := ⟨Nat.le_refl _, fun _ _ => rfl⟩
theorem append_keep {zero : List AVal} {bytes : Nat} {zeros : Bool} {s x : AVal} (hl : lim ≤ H.next) (h : aappend lim H zero bytes zeros s x = some (v, H')) : H.next ≤ H'.next ∧ ∀ b, b < lim → H'.get b = H.get b := by
  simp only [aappend, Option.bind_eq_bind, Option.bind_eq_some_iff] at h
  obtain ⟨⟨m, new⟩, _, h⟩ := h
  simp only at h
  split at h
  · simp at h
  split at h
  case h_2 => simp at h
  split at h
  · simp at h; obtain ⟨rfl, rfl⟩ := h; exact keep_same
  split at h
  · simp at h
  split at h
  · split at h <;> simp at h
    obtain ⟨rfl, rfl⟩ := h; exact keep_push _ hl
  · simp only [Option.bind_eq_some_iff] at h
    obtain ⟨cs, _, h⟩ := h
    split at h
    · split at h <;> simp at h
      rename_i hc
      obtain ⟨rfl, rfl⟩ := h; exact keep_set _ hc.1
    · simp only [Option.bind_eq_some_iff] at h
      obtain ⟨old, _, h⟩ := h
      split at h <;> simp at h
      obtain ⟨rfl, rfl⟩ := h; exact keep_push _ hl
  · simp only [Option.bind_eq_some_iff] at h
    obtain ⟨cs, _, h⟩ := h
    split at h
    case isFalse => simp at h
    rename_i hc
    split at h
    · simp at h; obtain ⟨rfl, rfl⟩ := h; exact keep_set _ hc.1
    · split at h <;> simp at h
      obtain ⟨rfl, rfl⟩ := h
      obtain ⟨a1, a2⟩ := keep_set (H := H) .dead hc.1
      obtain ⟨b1, b2⟩ := keep_push (H := H.set _ .dead) _ hl
      exact ⟨Nat.le_trans a1 b1, fun b hb => (b2 b hb).trans (a2 b hb)⟩
  · simp at h
theorem copy_keep {sz : Nat} {d s : AVal} (h : acopy lim H sz d s = some (v, H')) : H.next ≤ H'.next ∧ ∀ b, b < lim → H'.get b = H.get b := by
  unfold acopy at h
  split at h
  case h_2 => simp at h
  simp only [Option.bind_eq_bind, Option.bind_eq_some_iff] at h
  obtain ⟨⟨m, new⟩, _, h⟩ := h
  simp only at h
  split at h
  · simp at h; obtain ⟨rfl, rfl⟩ := h; exact keep_same
  · split at h
    case h_2 => simp at h
    simp only [Option.bind_eq_some_iff] at h
    obtain ⟨cs, _, h⟩ := h
    split at h <;> simp at h
    rename_i hc
    obtain ⟨rfl, rfl⟩ := h; exact keep_set _ hc.1
theorem store_keep {n : Nat} {a x : AVal} (h : astore lim H n a x = some H') : H.next ≤ H'.next ∧ ∀ b, b < lim → H'.get b = H.get b := by
  unfold astore at h
  split at h
  · split at h
    · split at h <;> simp at h
      rename_i hc
      subst h; exact keep_set _ hc.1
    · simp at h
  · simp at h
theorem mapUpdate_keep {g : Bool} {ls : List Leaf} {m k x : AVal} (h : amapUpdate lim H g ls m k x = some H') : H.next ≤ H'.next ∧ ∀ b, b < lim → H'.get b = H.get b := by
  unfold amapUpdate at h
  split at h
  · split at h
    · split at h <;> simp at h
      rename_i hc
      subst h; exact keep_set _ hc.1
    · simp at h
  · simp at h
theorem mapPlace_keep {g : Bool} {ls : List Leaf} {z m k : AVal} (h : amapEntry lim H g ls z m k = some (v, H')) : H.next ≤ H'.next ∧ ∀ b, b < lim → H'.get b = H.get b := by
  unfold amapEntry at h
  split at h
  · split at h
    · split at h
      · rename_i hc
        split at h
        · split at h <;> simp at h
          obtain ⟨_, rfl⟩ := h
          exact ⟨Nat.le_refl _, fun b hb => Heap.get_set_other _ _ _ _ (by have := hc.1; omega)⟩
        · simp at h
          obtain ⟨_, rfl⟩ := h
          exact ⟨Nat.le_refl _, fun b hb => Heap.get_set_other _ _ _ _ (by have := hc.1; omega)⟩
      · simp at h
    · simp at h
  · simp at h
theorem placeStore_keep {g : Bool} {ls : List Leaf} {m s x : AVal} (h : aentryStore lim H g ls m s x = some H') : H.next ≤ H'.next ∧ ∀ b, b < lim → H'.get b = H.get b := by
  unfold aentryStore at h
  split at h
  · split at h
    · split at h
      · split at h <;> simp at h
        rename_i hc
        subst h
        exact ⟨Nat.le_refl _, fun b hb => Heap.get_set_other _ _ _ _ (by have := hc.1; omega)⟩
      · simp at h
    · simp at h
  · simp at h
theorem mapDelete_keep {g : Bool} {ls : List Leaf} {m k : AVal} (h : amapDelete lim H g ls m k = some H') : H.next ≤ H'.next ∧ ∀ b, b < lim → H'.get b = H.get b := by
  unfold amapDelete at h
  split at h
  · split at h <;> simp at h
    subst h; exact keep_same
  · split at h
    · split at h <;> simp at h
      rename_i hc
      subst h; exact keep_set _ hc.1
    · simp at h
  · simp at h
theorem mapClear_keep {m : AVal} (h : amapClear lim H m = some H') : H.next ≤ H'.next ∧ ∀ b, b < lim → H'.get b = H.get b := by
  unfold amapClear at h
  split at h
  · simp at h; subst h; exact keep_same
  · split at h
    · split at h <;> simp at h
      rename_i hc
      subst h; exact keep_set _ hc
    · simp at h
  · simp at h
theorem clear_keep {z : List AVal} {x : AVal} (h : aclear lim H z x = some H') : H.next ≤ H'.next ∧ ∀ b, b < lim → H'.get b = H.get b := by
  unfold aclear at h
  split at h
  · split at h <;> simp at h
    subst h; exact keep_same
  · split at h
    · simp at h; subst h; exact keep_same
    · split at h
      · split at h <;> simp at h
        rename_i hc
        subst h; exact keep_set _ hc.1
      · simp at h
  · simp at h
theorem step_keep (hR : Keeps R) (hl : lim ≤ H.next) {aop : Aop} (h : step R lim ev H aop = some (v, H')) : H.next ≤ H'.next ∧ ∀ b, b < lim → H'.get b = H.get b := by
  have hv : ∀ {o : Option AVal}, val H o = some (v, H') → H.next ≤ H'.next ∧ ∀ b, b < lim → H'.get b = H.get b := fun h => by
    obtain ⟨_, rfl⟩ := val_some h; exact keep_same
  cases aop
  case alloc z => simp [step] at h; obtain ⟨rfl, rfl⟩ := h; exact keep_push _ hl
  case box x =>
    simp only [step] at h
    split at h <;> simp at h
    obtain ⟨rfl, rfl⟩ := h; exact keep_push _ hl
  case buildSlice z n ps =>
    simp only [step, Option.map_eq_some_iff] at h
    obtain ⟨cs, _, h⟩ := h
    simp at h; obtain ⟨rfl, rfl⟩ := h; exact keep_push _ hl
  case store n a x =>
    simp only [step, Option.map_eq_some_iff] at h
    obtain ⟨H1, h1, h⟩ := h
    simp at h; obtain ⟨rfl, rfl⟩ := h; exact store_keep h1
  case strToBytes x =>
    simp only [step, strToBytes] at h
    split at h
    · split at h <;> simp at h
      obtain ⟨rfl, rfl⟩ := h; exact keep_push _ hl
    · simp at h
  case makeSlice z b l c =>
    simp only [step, amakeSlice] at h
    split at h
    · split at h <;> simp at h
      obtain ⟨rfl, rfl⟩ := h; exact keep_push _ hl
    · simp at h
  case append z b zs s x => exact append_keep hl h
  case makeMap hint =>
    simp only [step] at h
    split at h <;> simp at h
    obtain ⟨rfl, rfl⟩ := h; exact keep_push _ hl
  case mapUpdate g ls m k x =>
    simp only [step, Option.map_eq_some_iff] at h
    obtain ⟨H1, h1, h⟩ := h
    simp at h; obtain ⟨rfl, rfl⟩ := h; exact mapUpdate_keep h1
  case mapPlace g ls z m k => exact mapPlace_keep h
  case placeStore g ls m s x =>
    simp only [step, Option.map_eq_some_iff] at h
    obtain ⟨H1, h1, h⟩ := h
    simp at h; obtain ⟨rfl, rfl⟩ := h; exact placeStore_keep h1
  case mapDelete g ls m k =>
    simp only [step, Option.map_eq_some_iff] at h
    obtain ⟨H1, h1, h⟩ := h
    simp at h; obtain ⟨rfl, rfl⟩ := h; exact mapDelete_keep h1
  case mapClear m =>
    simp only [step, Option.map_eq_some_iff] at h
    obtain ⟨H1, h1, h⟩ := h
    simp at h; obtain ⟨rfl, rfl⟩ := h; exact mapClear_keep h1
  case clearSl z x =>
    simp only [step, Option.map_eq_some_iff] at h
    obtain ⟨H1, h1, h⟩ := h
    simp at h; obtain ⟨rfl, rfl⟩ := h; exact clear_keep h1
  case copy sz d s => exact copy_keep h
  case call f args => exact hR _ _ _ _ _ _ hl h
  case callv x args =>
    simp only [step] at h
    split at h
    · exact hR _ _ _ _ _ _ hl h
    · exact hR _ _ _ _ _ _ hl h
    · simp at h
  case invoke tab x args =>
    simp only [step] at h
    split at h
    · split at h
      · exact hR _ _ _ _ _ _ hl h
      · simp at h
    · simp at h
  case nilFn tab x =>
    simp only [step] at h
    split at h
    · simp at h; obtain ⟨rfl, rfl⟩ := h; exact keep_same
    · split at h <;> simp at h
      obtain ⟨rfl, rfl⟩ := h; exact keep_same
    · simp at h
  all_goals
    simp only [step] at h
    first
      | exact hv h
      | (simp at h; obtain ⟨rfl, rfl⟩ := h; exact keep_same)
      | (split at h
         · first
             | exact hv h
             | (simp at h; obtain ⟨rfl, rfl⟩ := h; exact keep_same)
         · simp at h)
      | (simp at h; done)
theorem step_pure {aop : Aop} (hp : aop.pure = true) (h : step R lim ev H aop = some (v, H')) : H' = H ∧ ∀ (lim2 : Nat) (H2 : Heap), step R lim2 ev H2 aop = some (v, H2) := by
  have hv : ∀ {o : Option AVal}, val H o = some (v, H') → H' = H ∧ ∀ (lim2 : Nat) (H2 : Heap), val H2 o = some (v, H2) := fun h => by
    obtain ⟨h1, rfl⟩ := val_some h; exact ⟨rfl, fun _ _ => by simp [val, h1]⟩
  cases aop <;> simp [Aop.pure] at hp
  case nilFn tab x =>
    simp only [step] at h ⊢
    split at h
    · simp at h; obtain ⟨rfl, rfl⟩ := h; exact ⟨rfl, fun _ _ => rfl⟩
    · split at h
      · rename_i hin
        simp at h; obtain ⟨rfl, rfl⟩ := h; exact ⟨rfl, fun _ _ => by rw [if_pos hin]⟩
      · simp at h
    · simp at h
  all_goals
    simp only [step] at h ⊢
    first
      | exact hv h
      | (simp at h; obtain ⟨rfl, rfl⟩ := h; exact ⟨rfl, fun _ _ => rfl⟩)
      | (split at h
         · first
             | exact hv h
             | (simp at h; obtain ⟨rfl, rfl⟩ := h; exact ⟨rfl, fun _ _ => rfl⟩)
         · simp at h)
      | (simp at h; done)
theorem fillAll_congr : ∀ (ps : List (Nat × Nat × Opd)) (cs : List AVal), (∀ x ∈ ps.map (fun p => p.2.2), ev x = ev2 x) → fillAll ev cs ps = fillAll ev2 cs ps
  | [], cs, _ => rfl
  | (off, size, x) :: ps, cs, h => by
    have h1 := h x (by simp)
    simp only [fillAll, h1]
    split
    · exact fillAll_congr ps _ fun y hy => h y (by simp at hy ⊢; exact .inr hy)
    · rfl
theorem map_congr' {xs : List Opd} (h : ∀ x ∈ xs, ev x = ev2 x) : xs.map ev = xs.map ev2 := List.map_congr_left h
theorem omap_congr {x : Option Opd} (h : ∀ y ∈ x.toList, ev y = ev2 y) : x.map ev = x.map ev2 := by
  cases x with
  | none => rfl
  | some y => simp [h y (by simp)]
theorem step_congr {aop : Aop} (h : ∀ x ∈ aop.opds, ev x = ev2 x) : step R lim ev H aop = step R lim ev2 H aop := by
  cases aop <;> simp only [Aop.opds] at h <;> simp only [step]
  case build z ps => rw [fillAll_congr ps z h]
  case buildSlice z n ps => rw [fillAll_congr ps z h]
  case makeFn f xs ys => rw [map_congr' fun x hx => h x (by simp [hx]), map_congr' fun x hx => h x (by simp [hx])]
  case slice sz x lo hi mx => rw [h x (by simp), omap_congr fun y hy => h y (by simp [hy]), omap_congr fun y hy => h y (by simp [hy]), omap_congr fun y hy => h y (by simp [hy])]
  case sliceArr n sz x lo hi mx => rw [h x (by simp), omap_congr fun y hy => h y (by simp [hy]), omap_congr fun y hy => h y (by simp [hy]), omap_congr fun y hy => h y (by simp [hy])]
  case sliceStr x lo hi => rw [h x (by simp), omap_congr fun y hy => h y (by simp [hy]), omap_congr fun y hy => h y (by simp [hy])]
  case call f xs => rw [map_congr' h]
  case minmax m xs => rw [map_congr' h]
  case callv x xs => rw [h x (by simp), map_congr' fun y hy => h y (by simp [hy])]
  case invoke tab x xs => rw [h x (by simp), map_congr' fun y hy => h y (by simp [hy])]
  case pick a b c => rw [h a (by simp), h b (by simp), h c (by simp)]
  case makeMap hint => rw [omap_congr fun y hy => h y (by simp at hy ⊢; exact hy)]
  case mapUpdate g ls m k x => rw [h m (by simp), h k (by simp), h x (by simp)]
  case placeStore g ls m k x => rw [h m (by simp), h k (by simp), h x (by simp)]
  all_goals (first | rfl | (simp only [List.mem_cons, List.not_mem_nil, or_false, forall_eq, forall_eq_or_imp] at h; simp only [h]))
end
end Go.Ahs
